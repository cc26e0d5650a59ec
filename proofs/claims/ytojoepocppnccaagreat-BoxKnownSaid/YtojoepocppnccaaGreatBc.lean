/- The evaluator and the contracts that the walk leans on, part Bc: SvM, SvN, SvD2, SvD3, SvD4, SvD5, SvE, SvF, SvG0, SvG, SvH, SvI. -/
import Derived.Test.YtojoepocppnccaaGreatBb
import Derived.MapKept
namespace Go.Sv
noncomputable section
open Go.RowKit
variable {P : Program}

/-! ### keys -/
def bytesEq : List UInt8 → List UInt8 → Bool
  | [], [] => true
  | a :: as, b :: bs => Nat.beq a.toNat b.toNat && bytesEq as bs
  | _, _ => false
theorem bytesEq_iff : ∀ {a b : List UInt8}, bytesEq a b = true ↔ a = b
  | [], [] => by simp [bytesEq]
  | [], _ :: _ => by simp [bytesEq]
  | _ :: _, [] => by simp [bytesEq]
  | a :: as, b :: bs => by
    simp only [bytesEq, Bool.and_eq_true, bytesEq_iff, List.cons.injEq]
    constructor
    · rintro ⟨h, rfl⟩
      exact ⟨UInt8.toNat_inj.1 (Nat.eq_of_beq_eq_true h), rfl⟩
    · rintro ⟨rfl, rfl⟩
      exact ⟨by simp, rfl⟩
def keyEq : Key → Key → Bool
  | .i a, .i b => a == b
  | .s a, .s b => bytesEq a b
  | _, _ => false
def keyOf : Option IntKind → AV → Option Key
  | some k, .int k' n => bif decide (k' = k) then some (.i n) else none
  | none, .str s => some (.s s)
  | _, _ => none
theorem keyOf_ok {kk : Option IntKind} {v : AV} {K : Key} (h : keyOf kk v = some K) {κ : Kap} {y : Value} (hv : VRel κ v y) : KeyV kk K y := by
  unfold keyOf at h
  split at h
  · obtain ⟨h1, h2⟩ := cond_some h
    have := of_decide_eq_true h1
    simp only [Option.some.injEq] at h2
    subst h2; subst this
    cases hv; exact ⟨rfl, rfl⟩
  · simp only [Option.some.injEq] at h
    subst h
    cases hv; rfl
  · cases h
theorem keyV_iff {kk : Option IntKind} {a b : Key} {x y : Value} (h : KeyV kk a x) (k : KeyV kk b y) : keyEq a b = true ↔ x = y := by
  cases kk with
  | none =>
    cases a <;> cases x <;> first | (cases h; done) | skip
    cases b <;> cases y <;> first | (cases k; done) | skip
    simp only [KeyV] at h k
    subst h; subst k
    simp only [keyEq, bytesEq_iff, Value.string.injEq, ByteArray.mk.injEq]
    constructor
    · intro h; rw [h]
    · intro h; simpa using congrArg Array.toList h
  | some q =>
    cases a <;> cases x <;> first | (cases h; done) | skip
    cases b <;> cases y <;> first | (cases k; done) | skip
    simp only [KeyV] at h k
    obtain ⟨rfl, rfl⟩ := h
    obtain ⟨rfl, rfl⟩ := k
    simp [keyEq]
def kkDesc : Option IntKind → TypeDesc
  | some k => .int k
  | none => .string
theorem keyV_isKey {kk : Option IntKind} {a : Key} {x : Value} (h : KeyV kk a x) : MapKept.IsKey (kkDesc kk) x := by
  cases kk <;> cases a <;> cases x <;> first | (cases h; done) | skip
  · trivial
  · exact h.1
/-- A map's type: the keys' kind, the keys' and the values' type. -/
def mapTy (P : Program) (t : TypeId) : Option (Option IntKind × TypeId × TypeId) :=
  match P.underlying t with
  | some (.map key elem) => match P.underlying key with
    | some (.int k) => some (some k, key, elem)
    | some .string => some (none, key, elem)
    | _ => none
  | _ => none
theorem mapTy_ok {t : TypeId} {kk : Option IntKind} {key elem : TypeId} (h : mapTy P t = some (kk, key, elem)) : P.underlying t = some (.map key elem) ∧ P.underlying key = some (kkDesc kk) := by
  unfold mapTy at h
  split at h
  · rename_i key' elem' ht
    split at h
    · rename_i k hk
      simp only [Option.some.injEq, Prod.mk.injEq] at h
      obtain ⟨rfl, rfl, rfl⟩ := h
      exact ⟨ht, hk⟩
    · rename_i hk
      simp only [Option.some.injEq, Prod.mk.injEq] at h
      obtain ⟨rfl, rfl, rfl⟩ := h
      exact ⟨ht, hk⟩
    · cases h
  · cases h

/-! ### entries -/
section
variable {R : Type}
def lookK (l : List (Key × Nat × AV)) (K : Key) (found : AV → Option R) (missing : Option R) : Option R :=
  match l with
  | [] => missing
  | (k, _, v) :: l => bif keyEq K k then found v else lookK l K found missing
def putMapK (l : List (Key × Nat × AV)) (clock : Nat) (K : Key) (v : AV) (k : List (Key × Nat × AV) → Nat → Option R) : Option R :=
  match l with
  | [] => k [(K, clock, v)] (clock + 1)
  | (k', b', v') :: l => bif keyEq K k' then k ((K, b', v) :: l) clock else putMapK l clock K v fun l' c => k ((k', b', v') :: l') c
def delMapK (l : List (Key × Nat × AV)) (K : Key) (k : List (Key × Nat × AV) → Option R) : Option R :=
  match l with
  | [] => k []
  | (k', b', v') :: l => bif keyEq K k' then k l else delMapK l K fun l' => k ((k', b', v') :: l')
end
theorem Ents.isKey {κ : Kap} {kk : Option IntKind} : ∀ {l : List (Key × Nat × AV)} {es : List MapEntry}, Ents κ kk l es → ∀ e ∈ es, MapKept.IsKey (kkDesc kk) e.key
  | [], [], _, e, he => by cases he
  | (_, _, _) :: _, _ :: es, h, e, he => by
    rcases List.mem_cons.1 he with rfl | he
    · exact keyV_isKey h.1.1.1
    · exact Ents.isKey h.2 e he
  | [], _ :: _, h, _, _ => h.elim
  | _ :: _, [], h, _, _ => h.elim
theorem Ents.length {κ : Kap} {kk : Option IntKind} : ∀ {l : List (Key × Nat × AV)} {es : List MapEntry}, Ents κ kk l es → es.length = l.length
  | [], [], _ => rfl
  | (_, _, _) :: _, _ :: _, h => by simp [Ents.length h.2]
  | [], _ :: _, h => h.elim
  | _ :: _, [], h => h.elim
theorem lookK_ok {R : Type} {K : Key} {found : AV → Option R} {missing : Option R} {r : R} : ∀ {l : List (Key × Nat × AV)}, lookK l K found missing = some r →
    (missing = some r ∧ ∀ κ kk es y, Ents κ kk l es → KeyV kk K y → ∀ e ∈ es, e.key ≠ y) ∨
    (∃ v, found v = some r ∧ ∀ κ kk es y, Ents κ kk l es → KeyV kk K y → ∃ (j : Nat) (e : MapEntry), es[j]? = some e ∧ e.key = y ∧ VRel κ.nl v e.val)
  | [], h => .inl ⟨h, fun κ kk es y he _ => by cases es <;> simp [Ents] at he ⊢⟩
  | (k, b, v) :: l, h => by
    simp only [lookK] at h
    cases hb : keyEq K k with
    | true =>
      rw [hb, cond_true] at h
      refine .inr ⟨v, h, fun κ kk es y he hy => ?_⟩
      cases es with
      | nil => exact he.elim
      | cons e es => exact ⟨0, e, rfl, ((keyV_iff hy he.1.1.1).1 hb).symm, he.1.2⟩
    | false =>
      rw [hb, cond_false] at h
      rcases lookK_ok h with ⟨h1, h2⟩ | ⟨v', h1, h2⟩
      · refine .inl ⟨h1, fun κ kk es y he hy => ?_⟩
        cases es with
        | nil => exact he.elim
        | cons e es =>
          intro e' he'
          rcases List.mem_cons.1 he' with rfl | he'
          · intro q
            rw [(keyV_iff hy he.1.1.1).2 q.symm] at hb; cases hb
          · exact h2 κ kk es y he.2 hy e' he'
      · refine .inr ⟨v', h1, fun κ kk es y he hy => ?_⟩
        cases es with
        | nil => exact he.elim
        | cons e es =>
          obtain ⟨j, e', a, b, c⟩ := h2 κ kk es y he.2 hy
          exact ⟨j + 1, e', by simpa using a, b, c⟩
/-- An entry that is put: the list as it is then, where it stands. -/
theorem putMapK_ok {R : Type} {clock : Nat} {K : Key} {v : AV} {r : R} : ∀ {l : List (Key × Nat × AV)} {k : List (Key × Nat × AV) → Nat → Option R}, putMapK l clock K v k = some r →
    ∃ l' c', k l' c' = some r ∧ ∀ κ kk es y z, Ents κ kk l es → KeyV kk K y → VRel κ.nl v z →
      ((∀ e ∈ es, e.key ≠ y) ∧ Ents κ kk l' (es ++ [⟨y, z, clock⟩]) ∧ c' = clock + 1) ∨
      (∃ (j : Nat) (e : MapEntry), es[j]? = some e ∧ e.key = y ∧ Ents κ kk l' (es.set j ⟨y, z, e.born⟩) ∧ c' = clock)
  | [], k, h => ⟨_, _, h, fun κ kk es y z he hy hz => by
      cases es with
      | cons _ _ => exact he.elim
      | nil => exact .inl ⟨by simp, ⟨⟨⟨hy, rfl⟩, hz⟩, trivial⟩, rfl⟩⟩
  | (k', b', v') :: l, k, h => by
    simp only [putMapK] at h
    cases hb : keyEq K k' with
    | true =>
      rw [hb, cond_true] at h
      refine ⟨_, _, h, fun κ kk es y z he hy hz => ?_⟩
      cases es with
      | nil => exact he.elim
      | cons e es => exact .inr ⟨0, e, rfl, ((keyV_iff hy he.1.1.1).1 hb).symm, ⟨⟨⟨hy, he.1.1.2⟩, hz⟩, he.2⟩, rfl⟩
    | false =>
      rw [hb, cond_false] at h
      obtain ⟨l', c', h1, h2⟩ := putMapK_ok h
      refine ⟨_, _, h1, fun κ kk es y z he hy hz => ?_⟩
      cases es with
      | nil => exact he.elim
      | cons e es =>
        rcases h2 κ kk es y z he.2 hy hz with ⟨a, b, c⟩ | ⟨j, e', a, b, c, d⟩
        · refine .inl ⟨fun e' he' => ?_, ⟨he.1, b⟩, c⟩
          rcases List.mem_cons.1 he' with rfl | he'
          · intro q
            rw [(keyV_iff hy he.1.1.1).2 q.symm] at hb; cases hb
          · exact a e' he'
        · exact .inr ⟨j + 1, e', by simpa using a, b, ⟨he.1, c⟩, d⟩
theorem delMapK_ok {R : Type} {K : Key} {r : R} : ∀ {l : List (Key × Nat × AV)} {k : List (Key × Nat × AV) → Option R}, delMapK l K k = some r →
    ∃ l', k l' = some r ∧ ∀ κ kk es y, Ents κ kk l es → KeyV kk K y →
      ((∀ e ∈ es, e.key ≠ y) ∧ l' = l) ∨ (∃ (j : Nat) (e : MapEntry), es[j]? = some e ∧ e.key = y ∧ Ents κ kk l' (es.eraseIdx j))
  | [], k, h => ⟨_, h, fun κ kk es y he hy => by
      cases es with
      | cons _ _ => exact he.elim
      | nil => exact .inl ⟨by simp, rfl⟩⟩
  | (k', b', v') :: l, k, h => by
    simp only [delMapK] at h
    cases hb : keyEq K k' with
    | true =>
      rw [hb, cond_true] at h
      refine ⟨_, h, fun κ kk es y he hy => ?_⟩
      cases es with
      | nil => exact he.elim
      | cons e es => exact .inr ⟨0, e, rfl, ((keyV_iff hy he.1.1.1).1 hb).symm, he.2⟩
    | false =>
      rw [hb, cond_false] at h
      obtain ⟨l', h1, h2⟩ := delMapK_ok h
      refine ⟨_, h1, fun κ kk es y he hy => ?_⟩
      cases es with
      | nil => exact he.elim
      | cons e es =>
        rcases h2 κ kk es y he.2 hy with ⟨a, b⟩ | ⟨j, e', a, b, c⟩
        · refine .inl ⟨fun e' he' => ?_, by rw [b]⟩
          rcases List.mem_cons.1 he' with rfl | he'
          · intro q
            rw [(keyV_iff hy he.1.1.1).2 q.symm] at hb; cases hb
          · exact a e' he'
        · exact .inr ⟨j + 1, e', by simpa using a, b, ⟨he.1, c⟩⟩

/-- A type's zero value. -/
def zeroAV (P : Program) (t : TypeId) : Option AV :=
  match qrun P (zeroValue t) with
  | some (.agg _) => match zeroT P t with
    | some c => some (.agg c)
    | none => none
  | some z => match zeroT P t with
    | some [x] => bif oneV z && !isArr x then some x else none
    | _ => none
  | none => none
theorem zeroAV_ok (hZ : ZerosOk P) {t : TypeId} {v : AV} (h : zeroAV P t = some v) : isArr v = false ∧ ∃ z, qrun P (zeroValue t) = some z ∧ ∀ κ, VRel κ v z := by
  unfold zeroAV at h
  split at h
  · rename_i cs hz
    split at h
    · rename_i c hc
      simp only [Option.some.injEq] at h; subst h
      refine ⟨rfl, _, hz, fun κ => ?_⟩
      have := (zero_rel hZ hc hz).2 κ
      exact .agg c cs.toList this .nil
    · cases h
  · rename_i z hne hz
    split at h
    · rename_i x hc
      obtain ⟨hb, h⟩ := cond_some h
      simp only [Bool.and_eq_true, Bool.not_eq_true'] at hb
      simp only [Option.some.injEq] at h; subst h
      refine ⟨hb.2, z, hz, fun κ => ?_⟩
      have := (zero_rel hZ hc hz).2 κ
      have e : z.cells.toList = [z] := by cases z <;> first | rfl | (simp [oneV] at hb; done)
      rw [e] at this; exact this
    · cases h
  · cases h

/-! ### pairs of numbers -/
def hasId (id : Int) (xs : List (Int × Int)) : Bool := xs.any fun x => x.1 == id
def bytF (id : Int) : List (Int × Int) → Int
  | [] => 0
  | x :: r => bif x.1 == id then x.2 else bytF id r
def putP (id z : Int) : List (Int × Int) → List (Int × Int)
  | [] => [(id, z)]
  | x :: r => bif x.1 == id then (id, z) :: r else x :: putP id z r
def delP (id : Int) : List (Int × Int) → List (Int × Int)
  | [] => []
  | x :: r => bif x.1 == id then r else x :: delP id r
theorem bytF_none (id : Int) : ∀ (xs : List (Int × Int)), hasId id xs = false → bytF id xs = 0
  | [], _ => rfl
  | x :: r, h => by
    simp only [hasId, List.any_cons, Bool.or_eq_false_iff] at h
    simp only [bytF, h.1, cond_false]
    exact bytF_none id r h.2
theorem pt_cons {xs : List (Int × Int)} {e : Key × Nat × AV} {l : List (Key × Nat × AV)} (h : PT xs (e :: l)) : ∃ x r, xs = x :: r ∧ e = (.i x.1, e.2.1, .int .i64 x.2) ∧ PT r l := by
  unfold PT at h
  cases xs with
  | nil => simp at h
  | cons x r =>
    simp only [List.map_cons, List.cons.injEq, Prod.mk.injEq] at h
    obtain ⟨k, b, v⟩ := e
    obtain ⟨⟨h1, h2⟩, h3⟩ := h
    dsimp only at h1 h2
    subst h1; subst h2
    exact ⟨x, r, rfl, rfl, h3⟩
theorem pt_nil {xs : List (Int × Int)} (h : PT xs []) : xs = [] := by
  unfold PT at h
  cases xs with
  | nil => rfl
  | cons x r => simp at h
theorem pt_look (id : Int) : ∀ {l : List (Key × Nat × AV)} {xs : List (Int × Int)}, PT xs l → lookK l (.i id) (fun v => some (some v)) (some none) = some (bif hasId id xs then some (AV.int .i64 (bytF id xs)) else none)
  | [], xs, h => by rw [pt_nil h]; rfl
  | e :: l, xs, h => by
    obtain ⟨x, r, rfl, he, hr⟩ := pt_cons h
    have ih := pt_look id hr
    rw [he]
    have hk : keyEq (.i id) (.i x.1) = (x.1 == id) := by
      simp only [keyEq]
      exact Bool.eq_iff_iff.2 ⟨fun h => by simp only [beq_iff_eq] at h ⊢; exact h.symm, fun h => by simp only [beq_iff_eq] at h ⊢; exact h.symm⟩
    simp only [lookK, hk, hasId, List.any_cons, bytF]
    cases hb : (x.1 == id) with
    | true => simp
    | false => simpa [hasId] using ih
theorem pt_put (id z : Int) (clock : Nat) : ∀ {l : List (Key × Nat × AV)} {xs : List (Int × Int)}, PT xs l → ∃ l' c', PT (putP id z xs) l' ∧ putMapK l clock (.i id) (.int .i64 z) (fun l' c' => some (l', c')) = some (l', c') ∧ ∀ {R : Type} (k : List (Key × Nat × AV) → Nat → Option R), putMapK l clock (.i id) (.int .i64 z) k = k l' c'
  | [], xs, h => by rw [pt_nil h]; exact ⟨[(.i id, clock, .int .i64 z)], clock + 1, rfl, rfl, fun _ => rfl⟩
  | e :: l, xs, h => by
    obtain ⟨x, r, rfl, he, hr⟩ := pt_cons h
    obtain ⟨l', c', h1, _, h2⟩ := pt_put id z clock hr
    rw [he]
    have hk : keyEq (.i id) (.i x.1) = (x.1 == id) := by
      simp only [keyEq]
      exact Bool.eq_iff_iff.2 ⟨fun h => by simp only [beq_iff_eq] at h ⊢; exact h.symm, fun h => by simp only [beq_iff_eq] at h ⊢; exact h.symm⟩
    simp only [putMapK, hk, putP]
    cases hb : (x.1 == id) with
    | true => exact ⟨(.i id, e.2.1, .int .i64 z) :: l, clock, by simp only [cond_true, PT, List.map_cons]; rw [show l.map (fun e => (e.1, e.2.2)) = r.map (fun x => (Key.i x.1, AV.int .i64 x.2)) from hr], rfl, fun _ => rfl⟩
    | false => exact ⟨(.i x.1, e.2.1, .int .i64 x.2) :: l', c', by simp only [cond_false, PT, List.map_cons]; rw [show l'.map (fun e => (e.1, e.2.2)) = (putP id z r).map (fun x => (Key.i x.1, AV.int .i64 x.2)) from h1], by simp only [cond_false, h2], fun k => by simp only [cond_false, h2]⟩
theorem pt_del (id : Int) : ∀ {l : List (Key × Nat × AV)} {xs : List (Int × Int)}, PT xs l → ∃ l', PT (delP id xs) l' ∧ delMapK l (.i id) (fun l' => some l') = some l' ∧ ∀ {R : Type} (k : List (Key × Nat × AV) → Option R), delMapK l (.i id) k = k l'
  | [], xs, h => by rw [pt_nil h]; exact ⟨[], rfl, rfl, fun _ => rfl⟩
  | e :: l, xs, h => by
    obtain ⟨x, r, rfl, he, hr⟩ := pt_cons h
    obtain ⟨l', h1, _, h2⟩ := pt_del id hr
    rw [he]
    have hk : keyEq (.i id) (.i x.1) = (x.1 == id) := by
      simp only [keyEq]
      exact Bool.eq_iff_iff.2 ⟨fun h => by simp only [beq_iff_eq] at h ⊢; exact h.symm, fun h => by simp only [beq_iff_eq] at h ⊢; exact h.symm⟩
    simp only [delMapK, hk, delP]
    cases hb : (x.1 == id) with
    | true => exact ⟨l, hr, rfl, fun _ => rfl⟩
    | false => exact ⟨(.i x.1, e.2.1, .int .i64 x.2) :: l', by simp only [cond_false, PT, List.map_cons]; rw [show l'.map (fun e => (e.1, e.2.2)) = (delP id r).map (fun x => (Key.i x.1, AV.int .i64 x.2)) from h1], by simp only [cond_false, h2], fun k => by simp only [cond_false, h2]⟩
def zeroI : Option AV → Bool
  | some (.int .i64 z) => z == 0
  | _ => false
theorem zeroI_eq {o : Option AV} (h : zeroI o = true) : o = some (.int .i64 0) := by
  unfold zeroI at h
  split at h
  · rw [beq_iff_eq] at h; rw [h]
  · cases h

/-! ### operations -/
section
variable {R : Type} (P)
def makeMapE (t : TypeId) (reserve : Option Operand) (E : Env) (st : AS) (k : Ent → Option R) : Option R :=
  match mapTy P t with
  | some (kk, _, _) =>
    let done := k ⟨.mp st.next, [(st.next, some (.map kk [] 0))], 1, []⟩
    match reserve with
    | none => done
    | some x => match aeval E x with
      | some (.int _ _) => done
      | _ => none
  | none => none
def foundK (ok : Bool) (rd : List Nat) (k : Ent → Option R) (v : AV) (b : Bool) : Option R :=
  bif isArr v then none else bif ok then k ⟨.tup [v, .bool b], [], 0, rd⟩ else k ⟨v, [], 0, rd⟩
def lookupE (t : TypeId) (x ix : Operand) (ok : Bool) (E : Env) (m : List (Nat × Row)) (k : Ent → Option R) : Option R :=
  match mapTy P t with
  | some (kk, _, elem) => match aeval E ix with
    | some iv => match keyOf kk iv with
      | some K => match aeval E x with
        | some (.mp n) => match find m n with
          | some (.map kk' l _) => bif decide (kk' = kk) then lookK l K (fun v => foundK ok [n] k v true)
              (match zeroAV P elem with
               | some z => foundK ok [n] k z false
               | none => none) else none
          | some (.ptab xs) => match K with
            | .i id => bif decide (kk = some .i64) then
                bif !ok && zeroI (zeroAV P elem) then foundK ok [n] k (.int .i64 (bytF id xs)) true
                else bif hasId id xs then foundK ok [n] k (.int .i64 (bytF id xs)) true
                else (match zeroAV P elem with
                 | some z => foundK ok [n] k z false
                 | none => none) else none
            | _ => none
          | _ => none
        | some (.raw (.map none)) => match zeroAV P elem with
          | some z => foundK ok [] k z false
          | none => none
        | _ => none
      | none => none
    | none => none
  | none => none
def shedVK (m : List (Nat × Row)) (x : AV) (k : AV → List Nat → Option R) : Option R :=
  match x with
  | .agg c => shedK m c fun c' ns => k (.agg c') ns
  | x => shed1K m x k
def mapUpdateE (t : TypeId) (x ix y : Operand) (E : Env) (m : List (Nat × Row)) (k : Ent → Option R) : Option R :=
  match mapTy P t with
  | some (kk, _, _) => match aeval E ix with
    | some iv => match keyOf kk iv with
      | some K => match aeval E x with
        | some (.mp n) => match find m n with
          | some (.map kk' l clock) => match aeval E y with
            | some v => bif decide (kk' = kk) then shedVK m v fun v' ns => bif memB ns n then none else putMapK l clock K v' fun l' c' => k ⟨.raw undef, frz m ns ++ [(n, some (.map kk l' c'))], 0, n :: ns⟩ else none
            | none => none
          | some (.ptab xs) => match K with
            | .i id => match aeval E y with
              | some (.int .i64 z) => bif decide (kk = some .i64) then k ⟨.raw undef, [(n, some (.ptab (putP id z xs)))], 0, [n]⟩ else none
              | _ => none
            | _ => none
          | _ => none
        | _ => none
      | none => none
    | none => none
  | none => none
def deleteE (t : TypeId) (x ix : Operand) (E : Env) (m : List (Nat × Row)) (k : Ent → Option R) : Option R :=
  match mapTy P t with
  | some (kk, _, _) => match aeval E ix with
    | some iv => match keyOf kk iv with
      | some K => match aeval E x with
        | some (.mp n) => match find m n with
          | some (.map kk' l clock) => bif decide (kk' = kk) then delMapK l K fun l' => k ⟨.raw (.tuple #[]), [(n, some (.map kk l' clock))], 0, [n]⟩ else none
          | some (.ptab xs) => match K with
            | .i id => bif decide (kk = some .i64) then k ⟨.raw (.tuple #[]), [(n, some (.ptab (delP id xs)))], 0, [n]⟩ else none
            | _ => none
          | _ => none
        | some (.raw (.map none)) => k ⟨.raw (.tuple #[]), [], 0, []⟩
        | _ => none
      | none => none
    | none => none
  | none => none
end
end
end Go.Sv
namespace Go.Sv
noncomputable section
open Go.RowKit MapKept
variable {P : Program}

theorem nodup_at {α β : Type} {f : α → β} : ∀ {l : List α}, (l.map f).Nodup → ∀ {i j : Nat} {a b : α}, l[i]? = some a → l[j]? = some b → f a = f b → i = j
  | [], _, i, j, a, b, h, _, _ => by simp at h
  | x :: l, h, i, j, a, b, ha, hb, hf => by
    simp only [List.map_cons, List.nodup_cons] at h
    cases i with
    | zero =>
      cases j with
      | zero => rfl
      | succ j =>
        simp at ha hb; subst ha
        exact absurd (List.mem_map.2 ⟨b, List.mem_of_getElem? hb, hf.symm⟩) h.1
    | succ i =>
      cases j with
      | zero =>
        simp at ha hb; subst hb
        exact absurd (List.mem_map.2 ⟨a, List.mem_of_getElem? ha, hf⟩) h.1
      | succ j => exact congrArg (· + 1) (nodup_at h.2 (i := i) (j := j) (by simpa using ha) (by simpa using hb) hf)
theorem map_block {κ : Kap} {M : Mem} {w : World} (h : MRel κ M w) {n b : Nat} {kk : Option IntKind} {l : List (Key × Nat × AV)} {clock : Nat} (hM : M n = some (.map kk l clock)) (hb : κ.loc n = some (some b)) : ∃ es, w.heap[b]? = some (.map es clock) ∧ MapRel κ kk l es clock := by
  obtain ⟨b', es, h1, h2, h3⟩ := h.row n _ hM
  rw [hb] at h1; cases h1
  exact ⟨es, h2, h3⟩

theorem ptab_block {κ : Kap} {M : Mem} {w : World} (h : MRel κ M w) {n b : Nat} {xs : List (Int × Int)} (hM : M n = some (.ptab xs)) (hb : κ.loc n = some (some b)) : ∃ l clock es, PT xs l ∧ w.heap[b]? = some (.map es clock) ∧ MapRel κ (some .i64) l es clock := by
  obtain ⟨l, clock, b', es, h0, h1, h2, h3⟩ := h.row n _ hM
  rw [hb] at h1; cases h1
  exact ⟨l, clock, es, h0, h2, h3⟩
theorem makeMapE_ok {R : Type} {o : Oper} {t : TypeId} {rv : Option Operand} (ho : o.op = .makeMap t rv) {E : Env} {st : AS} {k : Ent → Option R} {r : R} (h : makeMapE P t rv E st k = some r) :
    ∃ e, k e = some r ∧ OpOk P o E st.next (find st.mem) e := by
  unfold makeMapE at h
  split at h
  · rename_i kk key elem ht
    obtain ⟨ht1, ht2⟩ := mapTy_ok ht
    have fin : k ⟨.mp st.next, [(st.next, some (.map kk [] 0))], 1, []⟩ = some r → (∀ (κ : Kap) (a : Act) (w : World), AOn κ o E a → (execOp a.eval o).run P w = .ok (.value (.map (some w.heap.size))) (w.alloc (.map #[] 0))) → ∃ e, k e = some r ∧ OpOk P o E st.next (find st.mem) e := by
      intro hk hrun
      refine ⟨_, hk, fun κ a w M K Q hA hR hrd hfr hK => ?_⟩
      obtain ⟨h1, h2, h3⟩ := hR.new (s := 0) (hfr st.next (Nat.le_refl _) (Nat.lt_succ_self _)) (r := .map kk [] 0) (o := .map #[] 0) ⟨w.heap.size, #[], Kap.at_same, alloc_new, trivial, stamped_empty 0⟩
      refine wp_value (hrun κ a w hA) (hK _ _ _ h1 (fun n hn => ?_) (.mp _ w.heap.size Kap.at_same .nil) h2 h3)
      exact Kap.at_ne (name_ne hn)
    dsimp only at h
    split at h
    · refine fin h fun κ a w hA => ?_
      simp only [execOp, ho]
      refine run_value ?_
      simp [Instr.makeMap, Result.andThen]
    · rename_i x
      split at h
      · rename_i q m hx
        refine fin h fun κ a w hA => ?_
        have hp := hA x (by rw [ho]; simp [Op.operands]) _ hx
        generalize he : a.eval x = ev at hp
        cases hp
        simp only [execOp, ho, Option.map_some]
        refine run_value ?_
        simp [Instr.makeMap, Go.run_underlying ht1, asInt, asIntOf, Result.andThen, he]
      · cases h
  · cases h

theorem foundK_ok {R : Type} {ok : Bool} {rd : List Nat} {k : Ent → Option R} {v : AV} {b : Bool} {r : R} (h : foundK ok rd k v b = some r) : isArr v = false ∧ k ⟨if ok then .tup [v, .bool b] else v, [], 0, rd⟩ = some r := by
  unfold foundK at h
  obtain ⟨h1, h2⟩ := cond_some' h
  refine ⟨h1, ?_⟩
  cases ok <;> exact h2
theorem found_rel {κ : Kap} {v : AV} {y : Value} (b ok : Bool) (hv : VRel κ v y) (_ha : isArr v = false) : VRel κ (if ok then .tup [v, .bool b] else v) (if ok then .tuple #[y, .bool b] else y) := by
  cases ok with
  | false => exact hv
  | true => exact .tup [v, .bool b] [y, .bool b] (hv.append (.bool b .nil)) .nil
theorem lookupE_ok (hZ : ZerosOk P) {R : Type} {o : Oper} {t : TypeId} {x ix : Operand} {ok : Bool} (ho : o.op = .lookup t x ix ok) {E : Env} {m : List (Nat × Row)} {k : Ent → Option R} {r : R} (h : lookupE P t x ix ok E m k = some r) :
    ∃ v rd, k ⟨v, [], 0, rd⟩ = some r ∧ StillOk P o E (find m) v rd := by
  have hmx : x ∈ o.op.operands := by rw [ho]; simp [Op.operands]
  have hmi : ix ∈ o.op.operands := by rw [ho]; simp [Op.operands]
  unfold lookupE at h
  split at h
  · rename_i kk key elem ht
    obtain ⟨ht1, ht2⟩ := mapTy_ok ht
    split at h
    · rename_i iv hiv
      split at h
      · rename_i K hK
        have hkey : ∀ (κ : Kap) (a : Act), AOn κ o E a → KeyV kk K (a.eval ix) := fun κ a hA => keyOf_ok hK (hA ix hmi _ hiv)
        split at h
        · rename_i n hx
          split at h
          · rename_i kk' l clock hf
            obtain ⟨hkk, h'⟩ := cond_some h
            have hkk2 := of_decide_eq_true hkk
            subst hkk2
            have hblk : ∀ (κ : Kap) (a : Act) (w : World) (M : Mem), AOn κ o E a → MRel κ M w → (∀ i ∈ [n], M i = find m i) → ∃ b es, a.eval x = .map (some b) ∧ w.heap[b]? = some (.map es clock) ∧ MapRel κ kk' l es clock := by
              intro κ a w M hA hR hrd
              have hp := hA x hmx _ hx
              generalize a.eval x = ev at hp
              cases hp with
              | mp _ b h1 _ =>
                obtain ⟨es, h2, h3⟩ := map_block hR ((hrd n (List.mem_singleton.2 rfl)).trans hf) h1
                exact ⟨b, es, rfl, h2, h3⟩
            rcases lookK_ok h' with ⟨h1, h2⟩ | ⟨v, h1, h2⟩
            · split at h1
              · rename_i z hz
                obtain ⟨hza, zv, hzq, hzr⟩ := zeroAV_ok hZ hz
                obtain ⟨hna, h1⟩ := foundK_ok h1
                refine ⟨_, _, h1, fun κ a w M hA hR hrd => ⟨_, found_rel false ok (hzr κ) hna, ?_⟩⟩
                obtain ⟨b, es, he, hb, hm⟩ := hblk κ a w M hA hR hrd
                have hk := hkey κ a hA
                have hno := h2 κ kk' es.toList _ hm.ent hk
                simp only [execOp, ho]
                refine run_value ?_
                rw [he]
                rcases findNow_spec (keyV_isKey hk) es.toList 0 (Ents.isKey hm.ent) with ⟨g1, _⟩ | ⟨j, e, _, g2, g3⟩
                · have hzrun : (zeroValue elem).run P w = .ok zv w := qrun_run _ hzq w
                  cases ok <;> simp [Instr.lookup, Go.run_underlying ht1, MapKept.run_getObj_map hb, MapKept.run_checkKey ht2 (keyV_isKey hk), MapKept.run_findKey ht2 g1, hzrun, Result.andThen]
                · exact absurd g3 (hno e (List.mem_of_getElem? g2))
              · cases h1
            · obtain ⟨hna, h1⟩ := foundK_ok h1
              refine ⟨_, _, h1, fun κ a w M hA hR hrd => ?_⟩
              obtain ⟨b, es, he, hb, hm⟩ := hblk κ a w M hA hR hrd
              have hk := hkey κ a hA
              obtain ⟨j, e, g1, g2, g3⟩ := h2 κ kk' es.toList _ hm.ent hk
              refine ⟨_, found_rel true ok (g3.mono (Kap.nl_le κ)) hna, ?_⟩
              simp only [execOp, ho]
              refine run_value ?_
              rw [he]
              rcases findNow_spec (keyV_isKey hk) es.toList 0 (Ents.isKey hm.ent) with ⟨_, q2⟩ | ⟨j', e', q1, q2, q3⟩
              · exact absurd g2 (q2 e (List.mem_of_getElem? g1))
              · have : j = j' := nodup_at hm.stamped.2.2 g1 q2 (g2.trans q3.symm)
                subst this
                rw [g1] at q2; cases q2
                cases ok <;> simp [Instr.lookup, Go.run_underlying ht1, MapKept.run_getObj_map hb, MapKept.run_checkKey ht2 (keyV_isKey hk), MapKept.run_findKey ht2 q1, Result.andThen]
          · rename_i xs hf
            split at h
            · rename_i id
              obtain ⟨hkk, h'⟩ := cond_some h
              have hkk2 := of_decide_eq_true hkk
              subst hkk2
              have hblk : ∀ (κ : Kap) (a : Act) (w : World) (M : Mem), AOn κ o E a → MRel κ M w → (∀ i ∈ [n], M i = find m i) → ∃ b l clock es, a.eval x = .map (some b) ∧ PT xs l ∧ w.heap[b]? = some (.map es clock) ∧ MapRel κ (some .i64) l es clock := by
                intro κ a w M hA hR hrd
                have hp := hA x hmx _ hx
                generalize a.eval x = ev at hp
                cases hp with
                | mp _ b h1 _ =>
                  obtain ⟨l, clock, es, h0, h2, h3⟩ := ptab_block hR ((hrd n (List.mem_singleton.2 rfl)).trans hf) h1
                  exact ⟨b, l, clock, es, rfl, h0, h2, h3⟩
              have hfound : ∀ (κ : Kap) (a : Act) (w : World) (M : Mem), hasId id xs = true → isArr (.int .i64 (bytF id xs)) = false → AOn κ o E a → MRel κ M w → (∀ i ∈ [n], M i = find m i) → ∃ u, VRel κ (if ok then .tup [.int .i64 (bytF id xs), .bool true] else .int .i64 (bytF id xs)) u ∧ (execOp a.eval o).run P w = .ok (.value u) w := by
                intro κ a w M hhas hna hA hR hrd
                obtain ⟨b, l, clock, es, he, h0, hb, hm⟩ := hblk κ a w M hA hR hrd
                have hlk := pt_look id h0
                rw [hhas, cond_true] at hlk
                have hk := hkey κ a hA
                rcases lookK_ok hlk with ⟨h1, _⟩ | ⟨v, h1, h2⟩
                · cases h1
                · simp only [Option.some.injEq] at h1
                  subst h1
                  obtain ⟨j, e, g1, g2, g3⟩ := h2 κ _ es.toList _ hm.ent hk
                  refine ⟨_, found_rel true ok (g3.mono (Kap.nl_le κ)) hna, ?_⟩
                  simp only [execOp, ho]
                  refine run_value ?_
                  rw [he]
                  rcases findNow_spec (keyV_isKey hk) es.toList 0 (Ents.isKey hm.ent) with ⟨_, q2⟩ | ⟨j', e', q1, q2, q3⟩
                  · exact absurd g2 (q2 e (List.mem_of_getElem? g1))
                  · have : j = j' := nodup_at hm.stamped.2.2 g1 q2 (g2.trans q3.symm)
                    subst this
                    rw [g1] at q2; cases q2
                    cases ok <;> simp [Instr.lookup, Go.run_underlying ht1, MapKept.run_getObj_map hb, MapKept.run_checkKey ht2 (keyV_isKey hk), MapKept.run_findKey ht2 q1, Result.andThen]
              have hmiss : ∀ (κ : Kap) (a : Act) (w : World) (M : Mem) (z : AV), zeroAV P elem = some z → hasId id xs = false → isArr z = false → AOn κ o E a → MRel κ M w → (∀ i ∈ [n], M i = find m i) → ∃ u, VRel κ (if ok then .tup [z, .bool false] else z) u ∧ (execOp a.eval o).run P w = .ok (.value u) w := by
                intro κ a w M z hz hhas hna hA hR hrd
                obtain ⟨hza, zv, hzq, hzr⟩ := zeroAV_ok hZ hz
                obtain ⟨b, l, clock, es, he, h0, hb, hm⟩ := hblk κ a w M hA hR hrd
                have hlk := pt_look id h0
                rw [hhas, cond_false] at hlk
                have hk := hkey κ a hA
                rcases lookK_ok hlk with ⟨_, h2⟩ | ⟨v, h1, _⟩
                · have hno := h2 κ _ es.toList _ hm.ent hk
                  refine ⟨_, found_rel false ok (hzr κ) hna, ?_⟩
                  simp only [execOp, ho]
                  refine run_value ?_
                  rw [he]
                  rcases findNow_spec (keyV_isKey hk) es.toList 0 (Ents.isKey hm.ent) with ⟨g1, _⟩ | ⟨j, e, _, g2, g3⟩
                  · have hzrun : (zeroValue elem).run P w = .ok zv w := qrun_run _ hzq w
                    cases ok <;> simp [Instr.lookup, Go.run_underlying ht1, MapKept.run_getObj_map hb, MapKept.run_checkKey ht2 (keyV_isKey hk), MapKept.run_findKey ht2 g1, hzrun, Result.andThen]
                  · exact absurd g3 (hno e (List.mem_of_getElem? g2))
                · cases h1
              cases hm : (!ok && zeroI (zeroAV P elem)) with
              | true =>
                rw [hm, cond_true] at h'
                simp only [Bool.and_eq_true, Bool.not_eq_true'] at hm
                obtain ⟨hok, hz0⟩ := hm
                subst hok
                have hz := zeroI_eq hz0
                obtain ⟨hna, h1⟩ := foundK_ok h'
                refine ⟨_, _, h1, fun κ a w M hA hR hrd => ?_⟩
                cases hh : hasId id xs with
                | true => exact hfound κ a w M hh hna hA hR hrd
                | false => rw [bytF_none id xs hh]; exact hmiss κ a w M _ hz hh rfl hA hR hrd
              | false =>
                rw [hm, cond_false] at h'
                cases hh : hasId id xs with
                | true =>
                  rw [hh, cond_true] at h'
                  obtain ⟨hna, h1⟩ := foundK_ok h'
                  exact ⟨_, _, h1, fun κ a w M hA hR hrd => hfound κ a w M hh hna hA hR hrd⟩
                | false =>
                  rw [hh, cond_false] at h'
                  split at h'
                  · rename_i z hz
                    obtain ⟨hna, h1⟩ := foundK_ok h'
                    exact ⟨_, _, h1, fun κ a w M hA hR hrd => hmiss κ a w M z hz hh hna hA hR hrd⟩
                  · cases h'
            · cases h
          · cases h
        · rename_i hx
          split at h
          · rename_i z hz
            obtain ⟨hza, zv, hzq, hzr⟩ := zeroAV_ok hZ hz
            obtain ⟨hna, h1⟩ := foundK_ok h
            refine ⟨_, _, h1, fun κ a w M hA hR hrd => ⟨_, found_rel false ok (hzr κ) hna, ?_⟩⟩
            have hk := hkey κ a hA
            have he : a.eval x = .map none := by
              have hp := hA x hmx _ hx
              generalize a.eval x = ev at hp
              cases hp; rfl
            simp only [execOp, ho]
            refine run_value ?_
            rw [he]
            have hzrun : (zeroValue elem).run P w = .ok zv w := qrun_run _ hzq w
            have g1 : Instr.findNow (kkDesc kk) (a.eval ix) [] 0 = some none := rfl
            cases ok <;> simp [Instr.lookup, Go.run_underlying ht1, MapKept.run_checkKey ht2 (keyV_isKey hk), MapKept.run_findKey ht2 g1, hzrun, Result.andThen]
          · cases h
        · cases h
      · cases h
    · cases h
  · cases h

theorem shedVK_ok {R : Type} {m : List (Nat × Row)} {x : AV} {k : AV → List Nat → Option R} {r : R} (h : shedVK m x k = some r) :
    ∃ y ns, k y ns = some r ∧ ∀ (κ : Kap) (w : World) (M : Mem), MRel κ M w → (∀ n ∈ ns, ∀ c o t, find m n = some (.cells c o t) → M n = some (.cells c false t)) → ∀ z, VRel κ x z → VRel κ.nl y z := by
  unfold shedVK at h
  split at h
  · rename_i c
    obtain ⟨ys, ns, h1, _, _, h4⟩ := shedK_ok _ h
    refine ⟨_, _, h1, fun κ w M hR hf z hz => ?_⟩
    cases hz with
    | agg _ zs hc _ => exact .agg ys zs (h4 κ w M hR hf zs hc) .nil
  · obtain ⟨y, ns, h1, _, _, h4⟩ := shed1K_ok h
    exact ⟨y, ns, h1, fun κ w M hR hf z hz => h4 κ w M hR hf [z] hz⟩

theorem mapUpdateE_ok {R : Type} {o : Oper} {t : TypeId} {x ix y : Operand} (ho : o.op = .mapUpdate t x ix y ∨ o.op = .insert t x ix y) {E : Env} {m : List (Nat × Row)} {k : Ent → Option R} {r : R} (h : mapUpdateE P t x ix y E m k = some r) {next : Nat} :
    ∃ e, k e = some r ∧ OpOk P o E next (find m) e := by
  have hmx : x ∈ o.op.operands := by rcases ho with ho | ho <;> (rw [ho]; simp [Op.operands])
  have hmi : ix ∈ o.op.operands := by rcases ho with ho | ho <;> (rw [ho]; simp [Op.operands])
  have hmy : y ∈ o.op.operands := by rcases ho with ho | ho <;> (rw [ho]; simp [Op.operands])
  have hex : ∀ ρ, execOp ρ o = (do Instr.mapUpdate t (ρ x) (ρ ix) (ρ y); pure .skip : Sem Next) := by rcases ho with ho | ho <;> (intro ρ; simp only [execOp, ho])
  unfold mapUpdateE at h
  split at h
  · rename_i kk key elem ht
    obtain ⟨ht1, ht2⟩ := mapTy_ok ht
    split at h
    · rename_i iv hiv
      split at h
      · rename_i K hK
        split at h
        · rename_i n hx
          split at h
          · rename_i kk' l clock hf
            split at h
            · rename_i v hy
              obtain ⟨hkk, h'⟩ := cond_some h
              have hkk2 := of_decide_eq_true hkk
              subst hkk2
              obtain ⟨v', ns, h1, hshed⟩ := shedVK_ok h'
              obtain ⟨hmem, h2⟩ := cond_some' h1
              obtain ⟨l', c', h3, hput⟩ := putMapK_ok h2
              refine ⟨_, h3, fun κ a w M Kk Q hA hR hrd _ hKk => ?_⟩
              have hk := keyOf_ok hK (hA ix hmi _ hiv)
              have hv := hA y hmy _ hy
              have hM : M n = some (.map kk' l clock) := (hrd n (List.mem_cons_self ..)).trans hf
              obtain ⟨κ', a1, a2, a3, a4, a5, a6⟩ := MRel.freezeAll (m := m) ns hR fun n' hn' c0 o0 t0 h0 => .inl (by rw [hrd n' (List.mem_cons_of_mem _ hn')]; exact h0)
              have hM' : (M.sets (frz m ns)) n = some (.map kk' l clock) := by rw [a5 n (memB_false hmem)]; exact hM
              have hvn := hshed κ' w _ a3 (fun n' hn' c0 o0 t0 h0 => a6 n' hn' c0 o0 t0 h0) _ (hv.mono a1)
              have hp := hA x hmx _ hx
              generalize hea : a.eval x = ev at hp
              cases hp with
              | mp _ b g0 _ =>
                have hloc : κ'.loc n = some (some b) := by rw [a2]; exact g0
                obtain ⟨es, hb, hm⟩ := map_block a3 hM' hloc
                have hrow : ∀ es', MapRel κ' kk' l' es' c' → RowRel κ' (World.putBlk w b (.map es' c')) n (.map kk' l' c') := fun es' h => ⟨b, es', hloc, putBlk_same hb, h⟩
                have fin : ∀ es', MapRel κ' kk' l' es' c' → (execOp a.eval o).run P w = .ok .skip (World.putBlk w b (.map es' c')) → o.wp P a w Kk Q := by
                  intro es' hmr hrun
                  obtain ⟨k1, k2⟩ := a3.put hM' rfl hloc (hrow es' hmr)
                  refine wp_skip' hrun (hKk κ' undef _ a1 (fun n _ => by rw [a2]) (.raw undef .nil) ?_ ?_)
                  · show MRel κ' (M.sets (frz m ns ++ [(n, some (.map kk' l' c'))])) _
                    rw [Mem.sets_append]; exact k1
                  · show Fr κ M w κ' (M.sets (frz m ns ++ [(n, some (.map kk' l' c'))])) _
                    rw [Mem.sets_append]; exact a4.trans k2
                rcases findNow_spec (keyV_isKey hk) es.toList 0 (Ents.isKey hm.ent) with ⟨q1, q2⟩ | ⟨j, e, q1, q2, q3⟩
                · rcases hput κ' kk' es.toList _ _ hm.ent hk hvn with ⟨_, p2, p3⟩ | ⟨j', e', p1, p2, _⟩
                  · subst p3
                    refine fin (es.push { key := a.eval ix, val := a.eval y, born := clock }) ⟨by simpa using p2, stamped_push hm.stamped q2⟩ ?_
                    rw [hex]
                    refine run_skip ?_
                    rw [hea]
                    simp [Instr.mapUpdate, Go.run_underlying ht1, MapKept.run_getObj_map hb, MapKept.run_checkKey ht2 (keyV_isKey hk), MapKept.run_findKey ht2 q1, MapKept.run_setObj_map _ hb, Result.andThen, World.putBlk]
                  · exact absurd p2 (q2 e' (List.mem_of_getElem? p1))
                · have hj : es[j]? = some e := by simpa using q2
                  rcases hput κ' kk' es.toList _ _ hm.ent hk hvn with ⟨p1, _⟩ | ⟨j', e', p1, p2, p3, p4⟩
                  · exact absurd q3 (p1 e (List.mem_of_getElem? q2))
                  · have : j' = j := nodup_at hm.stamped.2.2 p1 q2 (p2.trans q3.symm)
                    subst this
                    subst p4
                    have hkeym : ∀ e0, es[j']? = some e0 → ({ e0 with key := a.eval ix, val := a.eval y } : MapEntry).key = e0.key := fun e0 he0 => by rw [hj] at he0; cases he0; exact q3.symm
                    have hset : (es.modify j' fun e => { e with key := a.eval ix, val := a.eval y }).toList = es.toList.set j' ⟨a.eval ix, a.eval y, e.born⟩ := by
                      apply List.ext_getElem?
                      intro i
                      simp only [Array.getElem?_toList, Array.getElem?_modify]
                      by_cases hi : j' = i
                      · subst hi
                        have hlt := (List.getElem?_eq_some_iff.1 q2).1
                        rw [if_pos rfl, hj, List.getElem?_set_self hlt]; rfl
                      · rw [if_neg hi, List.getElem?_set_ne hi]; simp
                    refine fin (es.modify j' fun e => { e with key := a.eval ix, val := a.eval y }) ⟨by rw [hset]; rw [p1] at q2; cases q2; exact p3, stamped_modify hm.stamped _ _ (fun _ _ => rfl) (fun e' _ he' => hkeym e' he')⟩ ?_
                    rw [hex]
                    refine run_skip ?_
                    rw [hea]
                    simp [Instr.mapUpdate, Go.run_underlying ht1, MapKept.run_getObj_map hb, MapKept.run_checkKey ht2 (keyV_isKey hk), MapKept.run_findKey ht2 q1, hj, q3, MapKept.run_keyThatStays (keyV_isKey hk), MapKept.run_setObj_map _ hb, Result.andThen, World.putBlk]
            · cases h
          · rename_i xs hf
            split at h
            · rename_i id
              split at h
              · rename_i z hy
                obtain ⟨hkk, h'⟩ := cond_some h
                have hkk2 := of_decide_eq_true hkk
                subst hkk2
                refine ⟨_, h', fun κ a w M Kk Q hA hR hrd _ hKk => ?_⟩
                have hk := keyOf_ok hK (hA ix hmi _ hiv)
                have hv := hA y hmy _ hy
                have hM : M n = some (.ptab xs) := (hrd n (List.mem_singleton.2 rfl)).trans hf
                have hp := hA x hmx _ hx
                generalize hea : a.eval x = ev at hp
                cases hp with
                | mp _ b g0 _ =>
                  obtain ⟨l, clock, es, hpt, hb, hm⟩ := ptab_block hR hM g0
                  obtain ⟨l', c', hpt', hput1, _⟩ := pt_put id z clock hpt
                  have hvn : VRel κ.nl (.int .i64 z) (a.eval y) := by
                    generalize a.eval y = yv at hv
                    cases hv; exact .int _ _ .nil
                  have fin : ∀ es', MapRel κ (some .i64) l' es' c' → (execOp a.eval o).run P w = .ok .skip (World.putBlk w b (.map es' c')) → o.wp P a w Kk Q := by
                    intro es' hmr hrun
                    obtain ⟨k1, k2⟩ := hR.put (o := .map es' c') hM rfl g0 (r' := .ptab (putP id z xs)) ⟨l', c', b, es', hpt', g0, putBlk_same hb, hmr⟩
                    exact wp_skip' hrun (hKk κ undef _ (Kap.le_refl κ) (fun _ _ => rfl) (.raw undef .nil) k1 k2)
                  obtain ⟨l2, c2, h3, hput⟩ := putMapK_ok hput1
                  simp only [Option.some.injEq, Prod.mk.injEq] at h3
                  obtain ⟨rfl, rfl⟩ := h3
                  rcases findNow_spec (keyV_isKey hk) es.toList 0 (Ents.isKey hm.ent) with ⟨q1, q2⟩ | ⟨j, e, q1, q2, q3⟩
                  · rcases hput κ _ es.toList _ _ hm.ent hk hvn with ⟨_, p2, p3⟩ | ⟨j', e', p1, p2, _⟩
                    · subst p3
                      refine fin (es.push { key := a.eval ix, val := a.eval y, born := clock }) ⟨by simpa using p2, stamped_push hm.stamped q2⟩ ?_
                      rw [hex]
                      refine run_skip ?_
                      rw [hea]
                      simp [Instr.mapUpdate, Go.run_underlying ht1, MapKept.run_getObj_map hb, MapKept.run_checkKey ht2 (keyV_isKey hk), MapKept.run_findKey ht2 q1, MapKept.run_setObj_map _ hb, Result.andThen, World.putBlk]
                    · exact absurd p2 (q2 e' (List.mem_of_getElem? p1))
                  · have hj : es[j]? = some e := by simpa using q2
                    rcases hput κ _ es.toList _ _ hm.ent hk hvn with ⟨p1, _⟩ | ⟨j', e', p1, p2, p3, p4⟩
                    · exact absurd q3 (p1 e (List.mem_of_getElem? q2))
                    · have : j' = j := nodup_at hm.stamped.2.2 p1 q2 (p2.trans q3.symm)
                      subst this
                      subst p4
                      have hkeym : ∀ e0, es[j']? = some e0 → ({ e0 with key := a.eval ix, val := a.eval y } : MapEntry).key = e0.key := fun e0 he0 => by rw [hj] at he0; cases he0; exact q3.symm
                      have hset : (es.modify j' fun e => { e with key := a.eval ix, val := a.eval y }).toList = es.toList.set j' ⟨a.eval ix, a.eval y, e.born⟩ := by
                        apply List.ext_getElem?
                        intro i
                        simp only [Array.getElem?_toList, Array.getElem?_modify]
                        by_cases hi : j' = i
                        · subst hi
                          have hlt := (List.getElem?_eq_some_iff.1 q2).1
                          rw [if_pos rfl, hj, List.getElem?_set_self hlt]; rfl
                        · rw [if_neg hi, List.getElem?_set_ne hi]; simp
                      refine fin (es.modify j' fun e => { e with key := a.eval ix, val := a.eval y }) ⟨by rw [hset]; rw [p1] at q2; cases q2; exact p3, stamped_modify hm.stamped _ _ (fun _ _ => rfl) (fun e' _ he' => hkeym e' he')⟩ ?_
                      rw [hex]
                      refine run_skip ?_
                      rw [hea]
                      simp [Instr.mapUpdate, Go.run_underlying ht1, MapKept.run_getObj_map hb, MapKept.run_checkKey ht2 (keyV_isKey hk), MapKept.run_findKey ht2 q1, hj, q3, MapKept.run_keyThatStays (keyV_isKey hk), MapKept.run_setObj_map _ hb, Result.andThen, World.putBlk]
              · cases h
            · cases h
          · cases h
        · cases h
      · cases h
    · cases h
  · cases h

theorem deleteE_ok {R : Type} {o : Oper} {c : Call} {x ix : Operand} (ho : o.op = .call c) (hc : c.callee = .builtin .delete) (hx0 : c.args.toList = [x, ix]) {t tx : TypeId} (ht0 : c.argTypes.toList = [t, tx]) {E : Env} {m : List (Nat × Row)} {k : Ent → Option R} {r : R} (h : deleteE P t x ix E m k = some r) {next : Nat} :
    ∃ e, k e = some r ∧ OpOk P o E next (find m) e := by
  have e1 : c.args = #[x, ix] := by apply Array.ext'; simpa using hx0
  have e2 : c.argTypes = #[t, tx] := by apply Array.ext'; simpa using ht0
  have hmx : x ∈ o.op.operands := by rw [ho]; simp [Op.operands, Call.operands, hc, e1]
  have hmi : ix ∈ o.op.operands := by rw [ho]; simp [Op.operands, Call.operands, hc, e1]
  have callRun : ∀ {a : Act} {w w' : World} {v : Value}, (Builtin.delete_ #[t, tx] o.type #[a.eval x, a.eval ix]).run P w = .ok v w' → (execOp a.eval o).run P w = .ok (.value v) w' := by
    intro a w w' v h
    simp only [execOp, ho]
    unfold resolve
    rw [hc, e1, e2]
    refine (run_bind_ok (a := ⟨.builtin .delete #[t, tx] o.type _, #[a.eval x, a.eval ix]⟩) (w' := w) (by simp; rfl)).trans ?_
    unfold invoke builtin
    exact run_value h
  unfold deleteE at h
  split at h
  · rename_i kk key elem ht
    obtain ⟨ht1, ht2⟩ := mapTy_ok ht
    split at h
    · rename_i iv hiv
      split at h
      · rename_i K hK
        split at h
        · rename_i n hx
          split at h
          · rename_i kk' l clock hf
            obtain ⟨hkk, h'⟩ := cond_some h
            have hkk2 := of_decide_eq_true hkk
            subst hkk2
            obtain ⟨l', h3, hdel⟩ := delMapK_ok h'
            refine ⟨_, h3, fun κ a w M Kk Q hA hR hrd _ hKk => ?_⟩
            have hk := keyOf_ok hK (hA ix hmi _ hiv)
            have hM : M n = some (.map kk' l clock) := (hrd n (List.mem_singleton.2 rfl)).trans hf
            have hp := hA x hmx _ hx
            generalize hea : a.eval x = ev at hp
            cases hp with
            | mp _ b g0 _ =>
              obtain ⟨es, hb, hm⟩ := map_block hR hM g0
              have fin : ∀ es', MapRel κ kk' l' es' clock → (execOp a.eval o).run P w = .ok (.value (.tuple #[])) (World.putBlk w b (.map es' clock)) → o.wp P a w Kk Q := by
                intro es' hmr hrun
                obtain ⟨k1, k2⟩ := hR.put hM rfl g0 (r' := .map kk' l' clock) (o := .map es' clock) ⟨b, es', g0, putBlk_same hb, hmr⟩
                exact wp_value hrun (hKk κ (.tuple #[]) _ (Kap.le_refl κ) (fun _ _ => rfl) (.raw _ .nil) k1 k2)
              rcases findNow_spec (keyV_isKey hk) es.toList 0 (Ents.isKey hm.ent) with ⟨q1, q2⟩ | ⟨j, e, q1, q2, q3⟩
              · rcases hdel κ kk' es.toList _ hm.ent hk with ⟨_, p2⟩ | ⟨j', e', p1, p2, _⟩
                · subst p2
                  refine fin es hm (callRun ?_)
                  rw [hea]
                  simp [Builtin.delete_, Go.run_underlying ht1, MapKept.run_getObj_map hb, MapKept.run_checkKey ht2 (keyV_isKey hk), MapKept.run_findKey ht2 q1, MapKept.run_setObj_map _ hb, Result.andThen, World.putBlk]
                · exact absurd p2 (q2 e' (List.mem_of_getElem? p1))
              · rcases hdel κ kk' es.toList _ hm.ent hk with ⟨p1, _⟩ | ⟨j', e', p1, p2, p3⟩
                · exact absurd q3 (p1 e (List.mem_of_getElem? q2))
                · have : j' = j := nodup_at hm.stamped.2.2 p1 q2 (p2.trans q3.symm)
                  subst this
                  have hlt : j' < es.size := by simpa using (List.getElem?_eq_some_iff.1 q2).1
                  refine fin (es.eraseIdxIfInBounds j') ⟨?_, stamped_erase hm.stamped j'⟩ (callRun ?_)
                  · have : (es.eraseIdxIfInBounds j').toList = es.toList.eraseIdx j' := by
                      unfold Array.eraseIdxIfInBounds
                      rw [dif_pos hlt]; simp
                    rw [this]; exact p3
                  · rw [hea]
                    simp [Builtin.delete_, Go.run_underlying ht1, MapKept.run_getObj_map hb, MapKept.run_checkKey ht2 (keyV_isKey hk), MapKept.run_findKey ht2 q1, MapKept.run_setObj_map _ hb, Result.andThen, World.putBlk]
          · rename_i xs hf
            split at h
            · rename_i id
              obtain ⟨hkk, h'⟩ := cond_some h
              have hkk2 := of_decide_eq_true hkk
              subst hkk2
              refine ⟨_, h', fun κ a w M Kk Q hA hR hrd _ hKk => ?_⟩
              have hk := keyOf_ok hK (hA ix hmi _ hiv)
              have hM : M n = some (.ptab xs) := (hrd n (List.mem_singleton.2 rfl)).trans hf
              have hp := hA x hmx _ hx
              generalize hea : a.eval x = ev at hp
              cases hp with
              | mp _ b g0 _ =>
                obtain ⟨l, clock, es, hpt, hb, hm⟩ := ptab_block hR hM g0
                obtain ⟨l', hpt', hdel1, _⟩ := pt_del id hpt
                obtain ⟨l2, h3, hdel⟩ := delMapK_ok hdel1
                simp only [Option.some.injEq] at h3
                subst h3
                have fin : ∀ es', MapRel κ (some .i64) l2 es' clock → (execOp a.eval o).run P w = .ok (.value (.tuple #[])) (World.putBlk w b (.map es' clock)) → o.wp P a w Kk Q := by
                  intro es' hmr hrun
                  obtain ⟨k1, k2⟩ := hR.put (o := .map es' clock) hM rfl g0 (r' := .ptab (delP id xs)) ⟨l2, clock, b, es', hpt', g0, putBlk_same hb, hmr⟩
                  exact wp_value hrun (hKk κ (.tuple #[]) _ (Kap.le_refl κ) (fun _ _ => rfl) (.raw _ .nil) k1 k2)
                rcases findNow_spec (keyV_isKey hk) es.toList 0 (Ents.isKey hm.ent) with ⟨q1, q2⟩ | ⟨j, e, q1, q2, q3⟩
                · rcases hdel κ _ es.toList _ hm.ent hk with ⟨_, p2⟩ | ⟨j', e', p1, p2, _⟩
                  · subst p2
                    refine fin es hm (callRun ?_)
                    rw [hea]
                    simp [Builtin.delete_, Go.run_underlying ht1, MapKept.run_getObj_map hb, MapKept.run_checkKey ht2 (keyV_isKey hk), MapKept.run_findKey ht2 q1, MapKept.run_setObj_map _ hb, Result.andThen, World.putBlk]
                  · exact absurd p2 (q2 e' (List.mem_of_getElem? p1))
                · rcases hdel κ _ es.toList _ hm.ent hk with ⟨p1, _⟩ | ⟨j', e', p1, p2, p3⟩
                  · exact absurd q3 (p1 e (List.mem_of_getElem? q2))
                  · have : j' = j := nodup_at hm.stamped.2.2 p1 q2 (p2.trans q3.symm)
                    subst this
                    have hlt : j' < es.size := by simpa using (List.getElem?_eq_some_iff.1 q2).1
                    refine fin (es.eraseIdxIfInBounds j') ⟨?_, stamped_erase hm.stamped j'⟩ (callRun ?_)
                    · have : (es.eraseIdxIfInBounds j').toList = es.toList.eraseIdx j' := by
                        unfold Array.eraseIdxIfInBounds
                        rw [dif_pos hlt]; simp
                      rw [this]; exact p3
                    · rw [hea]
                      simp [Builtin.delete_, Go.run_underlying ht1, MapKept.run_getObj_map hb, MapKept.run_checkKey ht2 (keyV_isKey hk), MapKept.run_findKey ht2 q1, MapKept.run_setObj_map _ hb, Result.andThen, World.putBlk]
            · cases h
          · cases h
        · rename_i hx
          refine ⟨_, h, fun κ a w M Kk Q hA hR hrd _ hKk => ?_⟩
          have hk := keyOf_ok hK (hA ix hmi _ hiv)
          have he : a.eval x = .map none := by
            have hp := hA x hmx _ hx
            generalize a.eval x = ev at hp
            cases hp; rfl
          have hrun : (execOp a.eval o).run P w = .ok (.value (.tuple #[])) w := callRun (by
            rw [he]
            simp [Builtin.delete_, Go.run_underlying ht1, MapKept.run_checkKey ht2 (keyV_isKey hk), Result.andThen])
          exact wp_value hrun (hKk κ (.tuple #[]) _ (Kap.le_refl κ) (fun _ _ => rfl) (.raw _ .nil) hR (Fr.refl κ M w))
        · cases h
      · cases h
    · cases h
  · cases h
section
variable {R : Type} (P)
def lenMapE (t : TypeId) (x : Operand) (E : Env) (m : List (Nat × Row)) (k : Ent → Option R) : Option R :=
  match aeval E x with
  | some (.mp n) => match find m n with
    | some (.map _ l _) => match mapTy P t with
      | some _ => k ⟨.int .i64 (l.length : Int), [], 0, [n]⟩
      | none => none
    | _ => none
  | _ => none
end
theorem lenMapE_ok {R : Type} {o : Oper} {c : Call} {x : Operand} (ho : o.op = .call c) (hc : c.callee = .builtin .len) (hx0 : c.args.toList = [x]) {t : TypeId} (ht0 : c.argTypes.toList = [t]) {E : Env} {m : List (Nat × Row)} {k : Ent → Option R} {r : R} (h : lenMapE P t x E m k = some r) :
    ∃ v rd, k ⟨v, [], 0, rd⟩ = some r ∧ StillOk P o E (find m) v rd := by
  have e1 : c.args = #[x] := by apply Array.ext'; simpa using hx0
  have hmx : x ∈ o.op.operands := by rw [ho]; simp [Op.operands, Call.operands, hc, e1]
  unfold lenMapE at h
  split at h
  · rename_i n hx
    split at h
    · rename_i kk l clock hf
      split at h
      · rename_i ty hty
        obtain ⟨kk2, key, elem⟩ := ty
        obtain ⟨ht1, ht2⟩ := mapTy_ok hty
        refine ⟨_, _, h, fun κ a w M hA hR hrd => ⟨_, .int _ _ .nil, lenRun ho hc hx0 ht0 ?_⟩⟩
        have hp := hA x hmx _ hx
        generalize a.eval x = ev at hp
        cases hp with
        | mp _ b h1 _ =>
          obtain ⟨es, h2, h3⟩ := map_block hR ((hrd n (List.mem_singleton.2 rfl)).trans hf) h1
          have hl : es.size = l.length := by have := h3.ent.length; simpa using this
          simp [Builtin.len_, Go.run_underlying ht1, MapKept.run_getObj_map h2, Result.andThen, goInt, hl]
      · cases h
    · cases h
  · cases h
end
end Go.Sv
namespace Go.Sv
noncomputable section
open Go.RowKit
variable {P : Program}

section
variable {R : Type} (P)
/-- What a comparison of something that is not nil with nil comes to. -/
def cmpRes (op : BinOp) (rd : List Nat) (k : Ent → Option R) : Option R :=
  match op with
  | .eql => k ⟨.bool false, [], 0, rd⟩
  | .neq => k ⟨.bool true, [], 0, rd⟩
  | _ => none
/-- Which nil it is. -/
def nilOf (d : Option TypeDesc) (y : AV) : Nat :=
  match d, y with
  | some (.pointer _), .raw (.pointer none) => 1
  | some (.slice _), .raw (.slice none 0 0) => 2
  | some (.map _ _), .raw (.map none) => 3
  | some (.func _ _ _), .raw .nilFunc => 4
  | some (.interface _), .raw .nilIface => 5
  | _, _ => 0
def nilCmpE (op : BinOp) (n : Nat) (x : AV) (m : List (Nat × Row)) (k : Ent → Option R) (other : Option R) : Option R :=
  match n with
  | 0 => other
  | 1 => match x with
    | .ptr _ _ _ => cmpRes op [] k
    | .sptr _ _ => cmpRes op [] k
    | _ => other
  | 2 => match x with
    | .slc r _ _ _ _ len _ => bif Nat.blt 0 len then cmpRes op [] k else match find m r with
      | some (.cells c _ _) => bif Nat.blt 0 (cw c) then cmpRes op [r] k else none
      | _ => none
    | _ => other
  | 3 => match x with
    | .mp _ => cmpRes op [] k
    | _ => other
  | 4 => match x with
    | .fn _ _ _ => cmpRes op [] k
    | _ => other
  | _ => match x with
    | .ifc _ _ => cmpRes op [] k
    | _ => other
def cmpE (o : Oper) (op : BinOp) (t : TypeId) (x y : Operand) (E : Env) (m : List (Nat × Row)) (k : Ent → Option R) : Option R :=
  match aeval E y with
  | some (.raw v) => match aeval E x with
    | some u => nilCmpE op (nilOf (P.underlying t) (.raw v)) u m k (binE P o op t x y E k)
    | none => none
  | _ => binE P o op t x y E k
end
theorem eql_run {op : BinOp} {t : TypeId} {u v : Value} {w : World} {b : Bool} (hop : (op = .eql ∧ b = false) ∨ (op = .neq ∧ b = true)) (hu : (∀ a c, u ≠ .int a c) ∧ (∀ a c, u ≠ .float a c) ∧ (∀ a c d, u ≠ .complex a c d) ∧ (∀ s, u ≠ .string s)) (h : (Op.equal t u v).run P w = .ok false w) :
    (binOp op t u v).run P w = .ok (.bool b) w := by
  obtain ⟨h1, h2, h3, h4⟩ := hu
  rcases hop with ⟨rfl, rfl⟩ | ⟨rfl, rfl⟩
  · cases u <;> first | exact absurd rfl (h1 _ _) | exact absurd rfl (h2 _ _) | exact absurd rfl (h3 _ _ _) | exact absurd rfl (h4 _) | exact (run_bind_ok h).trans rfl
  · cases u <;> first | exact absurd rfl (h1 _ _) | exact absurd rfl (h2 _ _) | exact absurd rfl (h3 _ _ _) | exact absurd rfl (h4 _) | exact (run_bind_ok h).trans rfl
theorem nil_run {o : Oper} {op : BinOp} {t : TypeId} {x y : Operand} {z : TypeId} (ho : o.op = .binOp op t x y z) {a' : Act} {w : World} {u v : Value} (e1 : a'.eval x = u) (e2 : a'.eval y = v) {b : Bool} (hop : (op = .eql ∧ b = false) ∨ (op = .neq ∧ b = true))
    (hu : (∀ a c, u ≠ .int a c) ∧ (∀ a c, u ≠ .float a c) ∧ (∀ a c d, u ≠ .complex a c d) ∧ (∀ s, u ≠ .string s)) (hg : (eqGuard op t x y u v).run P w = .ok () w) (h : (Op.equal t u v).run P w = .ok false w) : (execOp a'.eval o).run P w = .ok (.value (.bool b)) w := by
  simp only [execOp, ho, e1, e2]
  refine run_value ?_
  exact (run_bind_ok hg).trans (eql_run hop hu h)
theorem cmpRes_some {R : Type} {op : BinOp} {rd : List Nat} {k : Ent → Option R} {r : R} (h : cmpRes op rd k = some r) : ∃ b, ((op = .eql ∧ b = false) ∨ (op = .neq ∧ b = true)) ∧ k ⟨.bool b, [], 0, rd⟩ = some r := by
  unfold cmpRes at h
  split at h
  · exact ⟨_, .inl ⟨rfl, rfl⟩, h⟩
  · exact ⟨_, .inr ⟨rfl, rfl⟩, h⟩
  · cases h
theorem cmpE_ok (hT : FlatOk P) {R : Type} {o : Oper} {op : BinOp} {t : TypeId} {x y : Operand} {z : TypeId} (ho : o.op = .binOp op t x y z) {E : Env} {m : List (Nat × Row)} {k : Ent → Option R} {r : R} (h : cmpE P o op t x y E m k = some r) :
    ∃ v rd, k ⟨v, [], 0, rd⟩ = some r ∧ StillOk P o E (find m) v rd := by
  have hmx : x ∈ o.op.operands := by rw [ho]; simp [Op.operands]
  have hmy : y ∈ o.op.operands := by rw [ho]; simp [Op.operands]
  have bin : binE P o op t x y E k = some r → ∃ v rd, k ⟨v, [], 0, rd⟩ = some r ∧ StillOk P o E (find m) v rd := fun h => by
    obtain ⟨v, h1, h2⟩ := binE_ok hT ho h
    exact ⟨v, [], h1, h2 _⟩
  unfold cmpE at h
  split at h
  · rename_i v hy
    split at h
    · rename_i u hx
      -- the value of y
      have hyv : ∀ (κ : Kap) (a : Act), AOn κ o E a → a.eval y = v := fun κ a hA => by
        have := hA y hmy _ hy
        generalize a.eval y = q at this
        cases this; rfl
      have fin : ∀ {d : TypeDesc} {b : Bool}, P.underlying t = some d → ((op = .eql ∧ b = false) ∨ (op = .neq ∧ b = true)) →
          ∀ (a : Act) (w : World) (u' : Value), a.eval x = u' → a.eval y = v → (∀ a c, u' ≠ .int a c) ∧ (∀ a c, u' ≠ .float a c) ∧ (∀ a c d, u' ≠ .complex a c d) ∧ (∀ s, u' ≠ .string s) →
          (eqGuard op t x y u' v).run P w = .ok () w → (qrun P (underlying t) = some d → (Op.equal t u' v).run P w = .ok false w) → (execOp a.eval o).run P w = .ok (.value (.bool b)) w := by
        intro d b hd hop a w u' e1 e2 hne hg heq
        exact nil_run ho e1 e2 hop hne hg (heq (by simp [underlying, program, bind, Sem.bind, qrun, hd, pure]))
      unfold nilCmpE at h
      split at h
      · exact bin h
      · rename_i hn
        have hn' := hn
        unfold nilOf at hn'
        split at hn' <;> first | cases hn' | skip
        rename_i e hd hv
        cases hv
        split at h
        · obtain ⟨b, hop, h1⟩ := cmpRes_some h
          refine ⟨_, _, h1, fun κ a w M hA hR _ => ⟨_, .bool _ .nil, ?_⟩⟩
          have hv := hA x hmx _ hx
          generalize ea : a.eval x = u' at hv
          cases hv with
          | ptr _ _ _ b ps _ _ _ =>
            refine fin hd hop a w _ ea (hyv κ a hA) ⟨by intros; simp, by intros; simp, by intros; simp, by intros; simp⟩ (by unfold eqGuard; split <;> rfl) fun hq => ?_
            exact (run_q hq).trans rfl
        · obtain ⟨b, hop, h1⟩ := cmpRes_some h
          refine ⟨_, _, h1, fun κ a w M hA hR _ => ⟨_, .bool _ .nil, ?_⟩⟩
          have hv := hA x hmx _ hx
          generalize ea : a.eval x = u' at hv
          cases hv with
          | sptr _ _ _ b _ _ _ _ _ _ _ _ =>
            refine fin hd hop a w _ ea (hyv κ a hA) ⟨by intros; simp, by intros; simp, by intros; simp, by intros; simp⟩ (by unfold eqGuard; split <;> rfl) fun hq => ?_
            exact (run_q hq).trans rfl
        · exact bin h
      · rename_i hn
        have hn' := hn
        unfold nilOf at hn'
        split at hn' <;> first | cases hn' | skip
        rename_i e hd hv
        cases hv
        split at h
        · rename_i rn ps o' i W len cap
          have gen : ∀ (rd : List Nat) (b : Bool), ((op = .eql ∧ b = false) ∨ (op = .neq ∧ b = true)) → (∀ (κ : Kap) (w : World) (M : Mem), MRel κ M w → (∀ n ∈ rd, M n = find m n) → len = 0 → κ.loc rn ≠ some none) → StillOk P o E (find m) (.bool b) rd := by
            intro rd b hop hloc κ a w M hA hR hM
            refine ⟨_, .bool _ .nil, ?_⟩
            have hv := hA x hmx _ hx
            generalize ea : a.eval x = u' at hv
            cases hv with
            | slc _ _ _ _ _ _ _ b' cap' ad _ _ _ _ _ =>
              refine fin hd hop a w _ ea (hyv κ a hA) ⟨by intros; simp, by intros; simp, by intros; simp, by intros; simp⟩ (by unfold eqGuard; split <;> rfl) fun hq => ?_
              exact (run_q hq).trans rfl
            | slc0 _ _ _ _ _ h3 _ => exact absurd h3 (hloc κ w M hR hM rfl)
          cases hb : Nat.blt 0 len with
          | true =>
            rw [hb, cond_true] at h
            obtain ⟨b, hop, h1⟩ := cmpRes_some h
            have hl : 0 < len := by simpa [Nat.blt_eq] using hb
            exact ⟨_, _, h1, gen [] b hop fun κ w M _ _ h0 => by omega⟩
          | false =>
            rw [hb, cond_false] at h
            split at h
            · rename_i c own tip hf
              obtain ⟨hc, h⟩ := cond_some h
              obtain ⟨b, hop, h1⟩ := cmpRes_some h
              have hc : 0 < cw c := by simpa [Nat.blt_eq] using hc
              refine ⟨_, _, h1, gen [rn] b hop fun κ w M hR hM _ hl => ?_⟩
              have hrow : M rn = some (.cells c own tip) := by rw [hM rn (List.mem_singleton.2 rfl)]; exact hf
              rcases hR.row rn _ hrow with ⟨_, g⟩ | ⟨b', zs, rest, e', fr, g1, _⟩
              · have := g.length
                simp at this; omega
              · rw [hl] at g1; cases g1
            · cases h
        · exact bin h
      · rename_i hn
        have hn' := hn
        unfold nilOf at hn'
        split at hn' <;> first | cases hn' | skip
        rename_i e1 e2 hd hv
        cases hv
        split at h
        · obtain ⟨b, hop, h1⟩ := cmpRes_some h
          refine ⟨_, _, h1, fun κ a w M hA hR _ => ⟨_, .bool _ .nil, ?_⟩⟩
          have hv := hA x hmx _ hx
          generalize ea : a.eval x = u' at hv
          cases hv with
          | mp _ b _ _ =>
            refine fin hd hop a w _ ea (hyv κ a hA) ⟨by intros; simp, by intros; simp, by intros; simp, by intros; simp⟩ (by unfold eqGuard; split <;> rfl) fun hq => ?_
            exact (run_q hq).trans rfl
        · exact bin h
      · rename_i hn
        have hn' := hn
        unfold nilOf at hn'
        split at hn' <;> first | cases hn' | skip
        rename_i e1 e2 e3 hd hv
        cases hv
        split at h
        · obtain ⟨b, hop, h1⟩ := cmpRes_some h
          refine ⟨_, _, h1, fun κ a w M hA hR _ => ⟨_, .bool _ .nil, ?_⟩⟩
          have hv := hA x hmx _ hx
          generalize ea : a.eval x = u' at hv
          cases hv with
          | fn _ _ _ _ _ _ _ _ =>
            refine fin hd hop a w _ ea (hyv κ a hA) ⟨by intros; simp, by intros; simp, by intros; simp, by intros; simp⟩ (by unfold eqGuard; split <;> rfl) fun hq => ?_
            exact (run_q hq).trans rfl
        · exact bin h
      · rename_i h0 h1' h2' h3' h4' hn
        split at h
        · obtain ⟨b, hop, h1⟩ := cmpRes_some h
          have hn' : ∃ e, P.underlying t = some (.interface e) ∧ v = .nilIface := by
            revert h1' h2' h3' h4' hn
            unfold nilOf
            split
            · intros; rename_i a b c d e; first | exact (a rfl).elim | exact (b rfl).elim | exact (c rfl).elim | exact (d rfl).elim | exact (e rfl).elim
            · intros; rename_i a b c d e; first | exact (a rfl).elim | exact (b rfl).elim | exact (c rfl).elim | exact (d rfl).elim | exact (e rfl).elim
            · intros; rename_i a b c d e; first | exact (a rfl).elim | exact (b rfl).elim | exact (c rfl).elim | exact (d rfl).elim | exact (e rfl).elim
            · intros; rename_i a b c d e; first | exact (a rfl).elim | exact (b rfl).elim | exact (c rfl).elim | exact (d rfl).elim | exact (e rfl).elim
            · rename_i e hd hv
              cases hv
              intros; exact ⟨_, hd, rfl⟩
            · intros; rename_i a b c d e; first | exact (a rfl).elim | exact (b rfl).elim | exact (c rfl).elim | exact (d rfl).elim | exact (e rfl).elim
          obtain ⟨e, hd, rfl⟩ := hn'
          refine ⟨_, _, h1, fun κ a w M hA hR _ => ⟨_, .bool _ .nil, ?_⟩⟩
          have hv := hA x hmx _ hx
          generalize ea : a.eval x = u' at hv
          cases hv with
          | ifc _ _ _ _ _ =>
            refine fin hd hop a w _ ea (hyv κ a hA) ⟨by intros; simp, by intros; simp, by intros; simp, by intros; simp⟩ (by unfold eqGuard; split <;> rfl) fun hq => ?_
            exact (run_q hq).trans rfl
        · exact bin h
    · cases h
  · exact bin h
end
end Go.Sv
namespace Go.Sv
noncomputable section
open Go.RowKit
variable {P : Program}

def lastS {α : Type} : List α → Option (List α × α)
  | [] => none
  | [x] => some ([], x)
  | x :: y :: r => match lastS (y :: r) with
    | some (a, b) => some (x :: a, b)
    | none => none
theorem lastS_eq {α : Type} : ∀ {l a : List α} {b : α}, lastS l = some (a, b) → l = a ++ [b]
  | [], a, b, h => by simp [lastS] at h
  | [x], a, b, h => by simp only [lastS, Option.some.injEq, Prod.mk.injEq] at h; rw [← h.1, ← h.2]; rfl
  | x :: y :: r, a, b, h => by
    simp only [lastS] at h
    split at h
    · rename_i a' b' h'
      simp only [Option.some.injEq, Prod.mk.injEq] at h
      rw [lastS_eq h', ← h.1, ← h.2]; rfl
    · cases h
theorem Place.sub {κ : Kap} {w : World} {b off : Nat} {W n : Nat} {f : Nat → List AV} {us : List (Nat × List AV)} {rest : List AV} (h : Place κ w ⟨b, off, none⟩ (.arr W n f us :: rest)) {i L : Nat} (hi : i + L ≤ n) : Place κ w ⟨b, off + i * W, none⟩ [.arr W L (fun j => elt us f (i + j)) []] := by
  obtain ⟨b', off', cs, e, fr, ha, h1, h2, h3⟩ := h
  cases ha
  have hs := (CRel.split_at (xs := [.arr W n f us]) (us := rest) h3).1
  have hcw : cw [.arr W n f us] = n * W := by simp [cw, width]
  rw [hcw] at hs
  have h4 := arr_take (arr_drop hs (a := i) (by omega)) (m := L) (by omega)
  have hle : (i + L) * W ≤ n * W := Nat.mul_le_mul_right W hi
  rw [Nat.add_mul] at hle
  simp only [cw, width] at h2
  refine ⟨b, off + i * W, cs, e, fr, rfl, h1, by simp only [cw, width]; omega, ?_⟩
  have e1 : cw [.arr W L (fun j => elt us f (i + j)) []] = L * W := by simp [cw, width]
  rw [e1]
  have e2 : (((((cs.toList.drop off).take (cw (.arr W n f us :: rest))).take (n * W)).drop (i * W)).take (L * W)) = (cs.toList.drop (off + i * W)).take (L * W) := by
    simp only [cw, width]
    rw [List.take_take, Nat.min_eq_left (by omega), List.drop_take, List.take_take, List.drop_drop, Nat.min_eq_left (by omega)]
  rw [e2] at h4
  exact h4
section
variable {R : Type} (P)
/-- An array's elements, out of a greater one. -/
def loadSubE (L : Nat) (t : TypeId) (x : AV) (m : List (Nat × Row)) (k : Ent → Option R) (other : Option R) : Option R :=
  match x with
  | .ptr n ps 0 => match lastS ps with
    | some (ps0, (o0, i, w)) => match qrun P (sizeOf t) with
      | some s => bif Nat.beq s (L * w) && Nat.blt 1 L then match find m n with
        | some (.cells c _ _) => walkK c ps0 fun c1 => match dropW c1 o0 with
          | some (.arr w' N f us :: _) => bif Nat.beq w w' && Nat.ble (i + L) N then readT P t [.arr w L (fun j => elt us f (i + j)) []] fun v => k ⟨v, [], 0, [n]⟩ else none
          | _ => none
        | _ => none
        else other
      | none => none
    | none => other
  | _ => other
def loadXE (t : TypeId) (x : Operand) (E : Env) (m : List (Nat × Row)) (k : Ent → Option R) : Option R :=
  match P.underlying t with
  | some (.array L _) => match aeval E x with
    | some p => loadSubE P L t p m k (loadE P t x E m k)
    | none => none
  | _ => loadE P t x E m k
def toArrE (t : TypeId) (x : Operand) (E : Env) (k : Ent → Option R) : Option R :=
  match qrun P (underlying t) with
  | some (.array N _) => match aeval E x with
    | some (.slc n ps o i w len _) => bif Nat.blt 0 N && Nat.ble N len then k ⟨.ptr n (ps ++ [(o, i, w)]) 0, [], 0, []⟩ else none
    | _ => none
  | _ => none
end
theorem loadXE_ok {R : Type} {o : Oper} {t : TypeId} {x : Operand} (ho : o.op = .load t x) {E : Env} {m : List (Nat × Row)} {k : Ent → Option R} {r : R} (h : loadXE P t x E m k = some r) :
    ∃ v rd, k ⟨v, [], 0, rd⟩ = some r ∧ StillOk P o E (find m) v rd := by
  unfold loadXE at h
  split at h
  · rename_i L e hu
    split at h
    · rename_i p hx
      unfold loadSubE at h
      split at h
      · rename_i n ps
        split at h
        · rename_i ps0 o0 i w hl
          split at h
          · rename_i s hs
            cases hb : Nat.beq s (L * w) && Nat.blt 1 L with
            | false => rw [hb, cond_false] at h; exact loadE_ok ho h
            | true =>
              rw [hb, cond_true] at h
              split at h
              · rename_i c own tip hf
                obtain ⟨c1, hw, h2⟩ := walkK_some _ _ _ h
                split at h2
                · rename_i w' N f us rest hd
                  obtain ⟨hc, h3⟩ := cond_some h2
                  simp only [Bool.and_eq_true] at hc
                  have e1 := Nat.eq_of_beq_eq_true hc.1
                  subst e1
                  have hle := Nat.le_of_ble_eq_true hc.2
                  obtain ⟨hne, v, hk, hload, _⟩ := readT_ok h3
                  refine ⟨v, [n], hk, fun κ a wd M hA hR hrd => ?_⟩
                  have hv := hA x (by rw [ho]; simp [Op.operands]) _ hx
                  generalize hea : a.eval x = u at hv
                  cases hv with
                  | ptr _ q _ b _ g1 g2 _ =>
                    have hM : M n = some (.cells c own tip) := by rw [hrd n (List.mem_singleton.2 rfl)]; exact hf
                    have hp := (((hR.place hM g1).walk ps0 hw).drop hd).sub hle
                    have e2 : q = 0 + plen ps0 + o0 + i * w := by rw [g2, lastS_eq hl, plen_append]; simp [plen]; omega
                    rw [← e2] at hp
                    obtain ⟨v', h5, h6⟩ := hload κ wd _ hp
                    refine ⟨v', h5, ?_⟩
                    simp only [execOp, ho, hea]
                    refine run_value ?_
                    exact (run_bind_ok (e := asAddr (.pointer (some ⟨b, q, none⟩))) (a := ⟨b, q, none⟩) (w' := wd) rfl).trans h6
                · cases h2
              · cases h
          · cases h
        · exact loadE_ok ho h
      · exact loadE_ok ho h
    · cases h
  · exact loadE_ok ho h
theorem toArrE_ok {R : Type} {o : Oper} {t : TypeId} {x : Operand} (ho : o.op = .sliceToArrayPointer t x) {E : Env} {k : Ent → Option R} {r : R} (h : toArrE P t x E k = some r) :
    ∃ v, k ⟨v, [], 0, []⟩ = some r ∧ ∀ m, StillOk P o E m v [] := by
  unfold toArrE at h
  split at h
  · rename_i N e hu
    split at h
    · rename_i n ps o' i w len cap hx
      obtain ⟨hb, h⟩ := cond_some h
      simp only [Bool.and_eq_true, Nat.blt_eq] at hb
      have hle := Nat.le_of_ble_eq_true hb.2
      refine ⟨_, h, fun m κ a wd M hA hR _ => ?_⟩
      have hv := hA x (by rw [ho]; simp [Op.operands]) _ hx
      generalize hea : a.eval x = u at hv
      cases hv with
      | slc _ _ _ _ _ _ _ b cap' ad g1 g2 g3 g4 _ =>
        obtain ⟨rfl, _⟩ := g2.resolve_left (by omega)
        have e : plen (ps ++ [(o', i, w)]) + 0 = plen ps + o' + i * w := by rw [plen_append]; simp [plen]; omega
        refine ⟨_, .ptr n (plen (ps ++ [(o', i, w)]) + 0) 0 b _ g1 rfl .nil, ?_⟩
        simp only [execOp, ho, hea]
        refine run_value ?_
        unfold Instr.arrayAt
        refine (run_q hu).trans ?_
        simp only [Nat.not_lt.2 hle, if_false]
        rw [e]
        rfl
      | slc0 _ _ _ _ _ _ _ => omega
    · cases h
  · cases h
end
end Go.Sv
namespace Go.Sv
noncomputable section
open Go.RowKit
variable {P : Program}

theorem freeze_blk {w : World} {b : Nat} {c : Array Value} {e : TypeId} {fr : Nat × Nat} (h : w.heap[b]? = some (.cells c e fr)) (hf : Thaw fr c.size) :
    ∃ fr', w.freeze ⟨b, c.size, none⟩ 1 = World.putBlk w b (.cells c e fr') ∧ Thaw fr' c.size := by
  obtain ⟨lo, hi⟩ := fr
  refine ⟨if lo == hi then (c.size, c.size + 1) else (min lo c.size, max hi (c.size + 1)), ?_, ?_⟩
  · obtain ⟨hlt, he⟩ := Array.getElem?_eq_some_iff.1 h
    simp only [World.freeze, World.putBlk]
    rw [if_neg (by omega)]
    congr 1
    apply Array.ext
    · simp
    · intro i h1 h2
      rw [Array.getElem_modify]
      by_cases e : b = i
      · subst e; simp [he]
      · rw [if_neg e, Array.getElem_setIfInBounds_ne _ e]
  · split
    · exact .inr (Nat.le_refl _)
    · rename_i hne
      rcases hf with e1 | e1
      · cases e1; simp at hne
      · exact .inr (by simp only at e1 ⊢; omega)
theorem run_convert_bytes {t e : TypeId} (ht : P.underlying t = some (.slice e)) (he : P.underlying e = some (.int .u8)) {w : World} {b off len cap : Nat} {c : Array Value} {el : TypeId} {fr : Nat × Nat} (h : w.heap[b]? = some (.cells c el fr)) :
    (convert t t (.slice (some ⟨b, off, none⟩) len cap)).run P w = .ok (.slice (some ⟨b, off, none⟩) len cap) (w.freeze ⟨b, c.size, none⟩ 1) := by
  have hs : w.shape? b = some (el, c.size) := by simp [World.shape?, h]
  unfold convert
  refine (run_bind_ok (run_underlying ht w)).trans ?_
  refine (run_bind_ok (run_underlying ht w)).trans ?_
  simp only [beq_self_eq_true]
  refine (run_bind_ok (run_underlying he w)).trans ?_
  simp only []
  simp [markStringish, shape, freeze, bind, Sem.bind, Sem.run, hs, pure]
def convertE {R : Type} (P : Program) (o : Oper) (s d : TypeId) (x : Operand) (E : Env) (m : List (Nat × Row)) (k : Ent → Option R) : Option R :=
  match aeval E x with
  | some (.slc n ps o' i w len cap) =>
    bif Nat.beq s d && Nat.ble 1 len then
      match P.underlying s with
      | some (.slice e) => match P.underlying e with
        | some (.int .u8) => match find m n with
          | some (.cells _ true _) => k ⟨.slc n ps o' i w len cap, [], 0, [n]⟩
          | _ => none
        | _ => none
      | _ => none
    else none
  | _ => pureE P o E k
theorem convertE_ok {R : Type} {o : Oper} {s d : TypeId} {x : Operand} (ho : o.op = .convert s d x) {E : Env} {m : List (Nat × Row)} {k : Ent → Option R} {r : R} (h : convertE P o s d x E m k = some r) {next : Nat} :
    ∃ e, k e = some r ∧ OpOk P o E next (find m) e := by
  have hmx : x ∈ o.op.operands := by rw [ho]; simp [Op.operands]
  unfold convertE at h
  split at h
  · rename_i n ps o' i w len cap hx
    obtain ⟨hb, h1⟩ := cond_some h
    clear h
    simp only [Bool.and_eq_true] at hb
    have hsd := Nat.eq_of_beq_eq_true hb.1
    have hlen := Nat.le_of_ble_eq_true hb.2
    subst hsd
    split at h1
    · rename_i e he
      split at h1
      · rename_i hu8
        split at h1
        · rename_i c tip hf
          refine ⟨_, h1, fun κ a w0 M K Q hA hR hrd _ hK => ?_⟩
          have hv := hA x hmx _ hx
          have hM : M n = some (.cells c true tip) := by rw [hrd n (List.mem_singleton.2 rfl)]; exact hf
          have hv0 := hv
          generalize hea : a.eval x = u0 at hv
          cases hv with
          | slc0 => omega
          | slc _ _ _ _ _ _ _ b cap' ad q1' h2 h3 h4 hn =>
            obtain ⟨hade, _⟩ := h2.resolve_left (by omega)
            rcases hR.row n _ hM with ⟨g1, _⟩ | ⟨b', zs, rest, el, fr, g1, g2, g3, g4, g5, g6, g7⟩
            · rw [q1'] at g1; cases g1
            · rw [q1'] at g1; cases g1
              obtain ⟨hfr, hst⟩ := g5 rfl
              obtain ⟨fr', q1, q2⟩ := freeze_blk g2 (hfr.len (by simp))
              have hrun : (execOp a.eval o).run P w0 = .ok (.value (.slice (some ad) len cap')) (World.putBlk w0 b (.cells (zs ++ rest).toArray el fr')) := by
                simp only [execOp, ho]
                refine run_value ?_
                rw [hea, hade]
                rw [hade] at hea
                rw [← q1]
                exact run_convert_bytes he hu8 g2
              have hrow : RowRel κ (World.putBlk w0 b (.cells (zs ++ rest).toArray el fr')) n (.cells c true tip) :=
                .inr ⟨b, zs, rest, el, fr', q1', putBlk_same g2, g3, g4, fun _ => ⟨q2.len (by simp), hst⟩, (fun h => by cases h), g7⟩
              obtain ⟨k1, k2⟩ := hR.put hM rfl q1' hrow
              have e1 : M.set n (some (.cells c true tip)) = M := funext fun y => by
                by_cases e : y = n
                · subst e; rw [Mem.set_same, hM]
                · rw [Mem.set_ne _ _ e]
              rw [e1] at k1 k2
              rw [hea] at hv0
              exact wp_value hrun (hK κ (.slice (some ad) len cap') _ (Kap.le_refl κ) (fun _ _ => rfl) hv0 k1 k2)
        · cases h1
      · cases h1
    · cases h1
  · obtain ⟨v, h1, h2⟩ := pureE_ok h
    exact ⟨_, h1, (h2 _).op⟩
end
end Go.Sv
namespace Go.Sv
noncomputable section
open Go.RowKit
variable {P : Program}

def copyFE {R : Type} (P : Program) (t tx : TypeId) (x y : Operand) (E : Env) (m : List (Nat × Row)) (k : Ent → Option R) : Option R :=
  match P.underlying t with
  | some (.slice e) => match P.underlying tx with
   | some (.slice _) => match P.info? e with
    | some it => match aeval E y with
      | some yv => srcFK m it.size yv fun cs cnt rd =>
          match aeval E x with
          | some (.slc n [] o i w len _) => bif Nat.beq w it.size && Nat.ble cnt len then
              bif Nat.beq cnt 0 then k ⟨.int .i64 0, [], 0, rd⟩ else
              match find m n with
              | some (.cells c true tip) => match takeW c (o + i * w) with
                | some cP => match dropW c (o + i * w + cnt * w) with
                  | some cD => k ⟨.int .i64 (cnt : Int), [(n, some (.cells (cP ++ (cs ++ cD)) true tip))], 0, n :: rd⟩
                  | none => none
                | none => none
              | _ => none
            else none
          | _ => none
      | none => none
    | none => none
   | _ => none
  | _ => none
theorem copyFE_ok {R : Type} {o : Oper} {c : Call} {x y : Operand} (ho : o.op = .call c) (hc : c.callee = .builtin .copy) (hx0 : c.args.toList = [x, y]) {t tx : TypeId} (ht0 : c.argTypes.toList = [t, tx]) {E : Env} {m : List (Nat × Row)} {k : Ent → Option R} {r : R} (h : copyFE P t tx x y E m k = some r) {next : Nat} :
    ∃ e, k e = some r ∧ OpOk P o E next (find m) e := by
  have e1 : c.args = #[x, y] := by apply Array.ext'; simpa using hx0
  have hmx : x ∈ o.op.operands := by rw [ho]; simp [Op.operands, Call.operands, hc, e1]
  have hmy : y ∈ o.op.operands := by rw [ho]; simp [Op.operands, Call.operands, hc, e1]
  unfold copyFE at h
  split at h
  · rename_i e ht
    split at h
    · rename_i etx htx
      split at h
      · rename_i it hi
        split at h
        · rename_i yv hy
          obtain ⟨cs, cnt, rd, h1, hsrc⟩ := srcFK_ok h
          split at h1
          · rename_i n o' i w0 len cap hx
            obtain ⟨hb, h2⟩ := cond_some h1
            simp only [Bool.and_eq_true] at hb
            have hw := Nat.eq_of_beq_eq_true hb.1
            have hle := Nat.le_of_ble_eq_true hb.2
            subst hw
            cases hz : Nat.beq cnt 0 with
            | true =>
              rw [hz, cond_true] at h2
              have h0 := Nat.eq_of_beq_eq_true hz
              subst h0
              refine ⟨_, h2, fun κ a w M K Q hA hR hrd hfr hK => ?_⟩
              have hsf := hsrc κ w M _ hR hrd (hA y hmy _ hy)
              obtain ⟨news, hcw, hcn, hsr⟩ := hsf.src (P := P) htx
              have hnil : news = [] := by have := hcn.length; rw [hcw] at this; simpa using this
              subst hnil
              have hcells := hsr.cells
              have hv := hA x hmx _ hx
              have hu : qrun P (underlying t) = some (.slice e) := by simp [underlying, program, bind, Sem.bind, qrun, ht, pure]
              have hsi : qrun P (sizeOf e) = some it.size := by simp [sizeOf, typeInfo, program, bind, Sem.bind, qrun, hi, pure]
              have hmin : Nat.min 0 len = 0 := Nat.min_eq_left hle
              generalize hea : a.eval x = u at hv
              refine wp_value (callRun2 ho hc hx0 ht0 fun consts => run_value ?_) (hK κ (.int .i64 0) w (Kap.le_refl κ) (fun _ _ => rfl) (.int _ _ .nil) hR (Fr.refl κ M w))
              rw [hea]
              unfold Builtin.copy_
              refine (run_q hu).trans ?_
              cases hv with
              | slc _ _ _ _ _ _ _ b cap' ad g1 g2 g3 g4 _ =>
                refine (run_bind_ok (hsr.len w)).trans ?_
                rw [hmin]
                refine (run_q hsi).trans ?_
                refine (run_bind_ok hcells).trans ?_
                rfl
              | slc0 _ _ _ _ _ g1 _ =>
                refine (run_bind_ok (hsr.len w)).trans ?_
                rw [hmin]
                refine (run_q hsi).trans ?_
                refine (run_bind_ok hcells).trans ?_
                rfl
            | false =>
            rw [hz, cond_false] at h2
            have h0 : cnt ≠ 0 := fun e => by subst e; cases hz
            split at h2
            · rename_i cR tip hf
              split at h2
              · rename_i cP hP
                split at h2
                · rename_i cD hD
                  refine ⟨_, h2, fun κ a w M K Q hA hR hrd hfr hK => ?_⟩
                  have hsf := hsrc κ w M _ hR (fun n' hn' => hrd n' (List.mem_cons_of_mem _ hn')) (hA y hmy _ hy)
                  obtain ⟨news, hcw, hcn, hsr⟩ := hsf.src (P := P) htx
                  have hone : ∀ z ∈ news, oneV z = true := fun z hz => by
                    have := hsr.one z hz
                    cases z <;> first | rfl | (simp [Value.oneCell'] at this; done)
                  have hnl : news.length = cnt * it.size := by have := hcn.length; rw [hcw] at this; exact this
                  have hM : M n = some (.cells cR true tip) := by rw [hrd n (List.mem_cons_self ..), hf]
                  have hv := hA x hmx _ hx
                  have hu : qrun P (underlying t) = some (.slice e) := by simp [underlying, program, bind, Sem.bind, qrun, ht, pure]
                  have hsi : qrun P (sizeOf e) = some it.size := by simp [sizeOf, typeInfo, program, bind, Sem.bind, qrun, hi, pure]
                  have hmin : Nat.min cnt len = cnt := Nat.min_eq_left hle
                  generalize hea : a.eval x = u at hv
                  · cases hv with
                    | slc0 => omega
                    | slc _ _ _ _ _ _ _ b cap' ad g1 g2 g3 g4 _ =>
                      obtain ⟨hade, _⟩ := g2.resolve_left (by omega)
                      simp only [plen, Nat.zero_add] at hade
                      rcases hR.row n _ hM with ⟨f1, _⟩ | ⟨b', zs, rest, el, fr, f1, f2, f3, f4, f5, f6, f7⟩
                      · rw [g1] at f1; cases f1
                      · rw [g1] at f1; cases f1
                        obtain ⟨hfr, hst⟩ := f5 rfl
                        obtain ⟨q1, q1l⟩ := f3.takeW hP
                        obtain ⟨q2, q2l⟩ := f3.dropW hD
                        have hfit : o' + i * it.size + news.length ≤ zs.length := by rw [hnl]; exact q2l
                        have hsp : splice (zs ++ rest).toArray.toList (o' + i * it.size) news = (zs.take (o' + i * it.size) ++ (news ++ zs.drop (o' + i * it.size + cnt * it.size))) ++ rest := by
                          unfold splice
                          simp only [List.take_append_of_le_length (show o' + i * it.size ≤ zs.length by omega), List.append_assoc, hnl]
                          rw [List.drop_append_of_le_length q2l]
                        have hrun := run_storeCells (P := P) (o' + i * it.size) news 0 (zs ++ rest).toArray w f2 (hfr.len (by simp)) (by simp; omega) hone
                        rw [Nat.add_zero, hsp] at hrun
                        have hrow : RowRel κ (World.putBlk w b (.cells ((zs.take (o' + i * it.size) ++ (news ++ zs.drop (o' + i * it.size + cnt * it.size))) ++ rest).toArray el fr)) n (.cells (cP ++ (cs ++ cD)) true tip) :=
                          .inr ⟨b, _, rest, el, fr, g1, putBlk_same f2, q1.append (hcn.append q2), f4, fun _ => ⟨hfr.len (by simp; omega), hst⟩, (fun h => by cases h), by rw [f7]; simp; omega⟩
                        obtain ⟨k1, k2⟩ := hR.put hM rfl g1 hrow
                        refine wp_value (callRun2 ho hc hx0 ht0 fun consts => run_value ?_) (hK κ (.int .i64 (cnt : Int)) _ (Kap.le_refl κ) (fun _ _ => rfl) (.int _ _ .nil) k1 k2)
                        rw [hea, hade]
                        unfold Builtin.copy_
                        refine (run_q hu).trans ?_
                        refine (run_bind_ok (hsr.len w)).trans ?_
                        rw [hmin]
                        refine (run_q hsi).trans ?_
                        refine (run_bind_ok hsr.cells).trans ?_
                        exact (run_bind_ok hrun).trans rfl
                · cases h2
              · cases h2
            · cases h2
          · cases h1
        · cases h
      · cases h
    · cases h
  · cases h
end
end Go.Sv
namespace Go.Sv
noncomputable section
open Go.RowKit
variable {P : Program}

theorem clearE_ok (hZ : ZerosOk P) {R : Type} {o : Oper} {c : Call} {x : Operand} (ho : o.op = .call c) (hc : c.callee = .builtin .clear) (hx0 : c.args.toList = [x]) {t : TypeId} (ht0 : c.argTypes.toList = [t]) {E : Env} {m : List (Nat × Row)} {k : Ent → Option R} {r : R} (h : clearE P t x E m k = some r) {next : Nat} :
    ∃ e, k e = some r ∧ OpOk P o E next (find m) e := by
  have e1 : c.args = #[x] := by apply Array.ext'; simpa using hx0
  have e2 : c.argTypes = #[t] := by apply Array.ext'; simpa using ht0
  have hmx : x ∈ o.op.operands := by rw [ho]; simp [Op.operands, Call.operands, hc, e1]
  have callRun : ∀ {a : Act} {w w' : World} {v : Value}, (Builtin.clear_ #[t] o.type #[a.eval x]).run P w = .ok v w' → (execOp a.eval o).run P w = .ok (.value v) w' := by
    intro a w w' v h
    simp only [execOp, ho]
    unfold resolve
    rw [hc, e1, e2]
    refine (run_bind_ok (a := ⟨.builtin .clear #[t] o.type _, #[a.eval x]⟩) (w' := w) (by simp; rfl)).trans ?_
    unfold invoke builtin
    exact run_value h
  unfold clearE at h
  split at h
  · rename_i e ht
    split at h
    · rename_i it hi
      split at h
      · rename_i z hz
        split at h
        · rename_i zc hzc
          split at h
          · rename_i n o' i W len cap hx
            obtain ⟨hb, h⟩ := cond_some h
            simp only [Bool.and_eq_true] at hb
            have hs1 := Nat.le_of_ble_eq_true hb.1
            have hW := Nat.eq_of_beq_eq_true hb.2.1
            have hcw := Nat.eq_of_beq_eq_true hb.2.2
            obtain ⟨row, h1, h2⟩ := setElsK_ok (P := P) h
            refine ⟨_, h1, fun κ a w M K Q hA hR hrd hfr hK => ?_⟩
            have hzz := zero_of_info hi hz
            obtain ⟨hzs, hzr⟩ := zeros_rel hZ hzc hzz hcw (by omega) len κ
            have hv := hA x hmx _ hx
            have hu : qrun P (underlying t) = some (.slice e) := by simp [underlying, program, bind, Sem.bind, qrun, ht, pure]
            rw [hW] at h2 hv
            rcases h2 κ w M hR (hrd n (List.mem_singleton.2 rfl)) hv (Nat.le_refl _) hzr with ⟨h0, k1, k2⟩ | ⟨b, off, cap', wd', hu', hst, k1, k2⟩
            · subst h0
              refine wp_value (callRun ?_) (hK κ (.tuple #[]) w (Kap.le_refl κ) (fun _ _ => rfl) (.tup [] [] .nil .nil) k1 k2)
              generalize a.eval x = u at hv
              unfold Builtin.clear_
              refine (run_q hu).trans ?_
              cases hv <;> rfl
            · refine wp_value (callRun ?_) (hK κ (.tuple #[]) wd' (Kap.le_refl κ) (fun _ _ => rfl) (.tup [] [] .nil .nil) k1 k2)
              rw [hu']
              unfold Builtin.clear_
              refine (run_q hu).trans ?_
              by_cases h0 : len = 0
              · subst h0
                have : ((Array.range (0 * it.size)).map (z.cells[· % z.cells.size]!)).toList = [] := by simp
                rw [this] at hst
                have : wd' = w := by simp [storeCells, pure] at hst; exact hst.symm
                rw [this]; rfl
              · obtain ⟨j, rfl⟩ : ∃ j, len = j + 1 := ⟨len - 1, by omega⟩
                refine (run_q hzz).trans ?_
                refine (run_bind_ok (a := ()) (w' := wd') ?_).trans rfl
                have : (Builtin.zeroCells z.cells (j + 1)).toList = ((Array.range ((j + 1) * it.size)).map (z.cells[· % z.cells.size]!)).toList := by
                  unfold Builtin.zeroCells; rw [hzs]
                rw [this]
                exact hst
          · cases h
        · cases h
      · cases h
    · cases h
  · cases h


theorem copyE_ok {R : Type} {o : Oper} {c : Call} {x y : Operand} (ho : o.op = .call c) (hc : c.callee = .builtin .copy) (hx0 : c.args.toList = [x, y]) {t tx : TypeId} (ht0 : c.argTypes.toList = [t, tx]) {E : Env} {m : List (Nat × Row)} {k : Ent → Option R} {r : R} (h : copyE P t tx x y E m k = some r) {next : Nat} :
    ∃ e, k e = some r ∧ OpOk P o E next (find m) e := by
  have e1 : c.args = #[x, y] := by apply Array.ext'; simpa using hx0
  have hmx : x ∈ o.op.operands := by rw [ho]; simp [Op.operands, Call.operands, hc, e1]
  have hmy : y ∈ o.op.operands := by rw [ho]; simp [Op.operands, Call.operands, hc, e1]
  unfold copyE at h
  split at h
  · rename_i e ht
    split at h
    · rename_i it hi
      split at h
      · rename_i yv hy
        obtain ⟨hb, h⟩ := cond_some h
        simp only [Bool.and_eq_true] at hb
        obtain ⟨W, f, us, cnt, rd, h1, hsrc⟩ := srcK_ok h
        obtain ⟨hW, h2⟩ := cond_some h1
        have hW : W = it.size ∨ cnt = 0 := by
          cases hbw : Nat.beq W it.size
          · rw [hbw] at hW; exact .inr (Nat.eq_of_beq_eq_true (by simpa using hW))
          · exact .inl (Nat.eq_of_beq_eq_true hbw)
        split at h2
        · rename_i n o' i w0 len cap hx
          obtain ⟨hw, h3⟩ := cond_some h2
          obtain ⟨hle, h4⟩ := cond_some h3
          have hw := Nat.eq_of_beq_eq_true hw
          have hle := Nat.le_of_ble_eq_true hle
          obtain ⟨row, h5, h6⟩ := setElsK_ok (P := P) h4
          refine ⟨_, h5, fun κ a w M K Q hA hR hrd hfr hK => ?_⟩
          obtain ⟨news, hcn, hsr⟩ := (hsrc κ w M _ hR (fun n' hn' => hrd n' (List.mem_cons_of_mem _ hn')) (hA y hmy _ hy)).src hb.1 (hA y hmy _ hy) hW
          have hv := hA x hmx _ hx
          have hu : qrun P (underlying t) = some (.slice e) := by simp [underlying, program, bind, Sem.bind, qrun, ht, pure]
          have hsi : qrun P (sizeOf e) = some it.size := by simp [sizeOf, typeInfo, program, bind, Sem.bind, qrun, hi, pure]
          rw [hw] at h6 hv
          have hmin : Nat.min cnt len = cnt := Nat.min_eq_left hle
          rcases h6 κ w M hR (hrd n (List.mem_cons_self ..)) hv hle hcn with ⟨h0, k1, k2⟩ | ⟨b, off, cap', wd', hu', hst, k1, k2⟩
          · have hnil : news = [] := by have := hsr.newsLen; rw [h0] at this; simpa using this
            refine wp_value (callRun2 ho hc hx0 ht0 fun consts => run_value ?_) (hK κ (.int .i64 (cnt : Int)) w (Kap.le_refl κ) (fun _ _ => rfl) (.int _ _ .nil) k1 k2)
            generalize a.eval x = u at hv
            unfold Builtin.copy_
            refine (run_q hu).trans ?_
            have hcells := hsr.cells
            rw [hnil] at hcells
            cases hv with
            | slc _ _ _ _ _ _ _ b cap' ad g1 g2 g3 g4 _ =>
              refine (run_bind_ok (hsr.len w)).trans ?_
              rw [hmin]
              refine (run_q hsi).trans ?_
              refine (run_bind_ok hcells).trans ?_
              rfl
            | slc0 _ _ _ _ _ g1 _ =>
              refine (run_bind_ok (hsr.len w)).trans ?_
              rw [hmin]
              refine (run_q hsi).trans ?_
              refine (run_bind_ok hcells).trans ?_
              rfl
          · refine wp_value (callRun2 ho hc hx0 ht0 fun consts => run_value ?_) (hK κ (.int .i64 (cnt : Int)) wd' (Kap.le_refl κ) (fun _ _ => rfl) (.int _ _ .nil) k1 k2)
            rw [hu']
            unfold Builtin.copy_
            refine (run_q hu).trans ?_
            refine (run_bind_ok (hsr.len w)).trans ?_
            rw [hmin]
            refine (run_q hsi).trans ?_
            refine (run_bind_ok hsr.cells).trans ?_
            exact (run_bind_ok hst).trans rfl
        · cases h2
      · cases h
    · cases h
  · cases h

/-! ### places in rows whose cells lie flat -/
section
variable {R : Type}
def natK (n : Nat) (k : Nat → Option R) : Option R :=
  match n with
  | 0 => k 0
  | m + 1 => k (m + 1)
theorem natK_eq (n : Nat) (k : Nat → Option R) : natK n k = k n := by cases n <;> rfl
end
/-- Do an array's elements lie flat there? -/
def flatAt (m : List (Nat × Row)) (n : Nat) (ps : List (Nat × Nat × Nat)) (o i w : Nat) : Bool :=
  match find m n with
  | some (.cells c _ _) => match walk c ps with
    | some c1 => match dropW c1 o with
      | some (.arr w' N _ _ :: _) => !(Nat.beq w w' && Nat.blt i N)
      | some (_ :: _) => true
      | _ => false
    | none => false
  | _ => false
def normE {R : Type} (m : List (Nat × Row)) (e : Ent) (k : Ent → Option R) : Option R :=
  match e.v with
  | .ptr n ps o => match lastS ps with
    | some (ps0, (o0, i, w)) => bif flatAt m n ps0 o0 i w then natK (o0 + i * w + o) fun q => k ⟨.ptr n ps0 q, e.eff, e.nx, e.rd⟩ else k e
    | none => k e
  | _ => k e
theorem normE_ok {R : Type} {o : Oper} {E : Env} {m : Mem} {ml : List (Nat × Row)} {v : AV} {k : Ent → Option R} {r : R} (hv : StillOk P o E m v []) (h : normE ml ⟨v, [], 0, []⟩ k = some r) : ∃ v', k ⟨v', [], 0, []⟩ = some r ∧ StillOk P o E m v' [] := by
  unfold normE at h
  dsimp only at h
  split at h
  · rename_i n ps q
    split at h
    · rename_i ps0 o0 i w hl
      have hps := lastS_eq hl
      cases hf : flatAt ml n ps0 o0 i w with
      | false => rw [hf] at h; exact ⟨_, h, hv⟩
      | true =>
        rw [hf, cond_true] at h
        rw [natK_eq] at h
        have h' : k ⟨.ptr n ps0 (o0 + i * w + q), [], 0, []⟩ = some r := h
        refine ⟨_, h', fun κ a wd M hA hR hrd => ?_⟩
        obtain ⟨u, h1, h2⟩ := hv κ a wd M hA hR hrd
        refine ⟨u, ?_, h2⟩
        cases h1 with
        | ptr _ p _ b _ h3 h4 h5 =>
          cases h5
          exact .ptr n p _ b ps0 h3 (by rw [h4, hps, plen_append]; simp [plen]; omega) .nil
    · exact ⟨_, h, hv⟩
  · exact ⟨_, h, hv⟩

section
variable {R : Type} (P)
/-- An operation that calls no function of the program. -/
def opE (o : Oper) (E : Env) (st : AS) (k : Ent → Option R) : Option R :=
  match o.op with
  | .move x => moveE x E k
  | .assign x => moveE x E k
  | .pick c x y => pickE c x y E k
  | .binOp op t x y _ => cmpE P o op t x y E st.mem k
  | .load t x => loadXE P t x E st.mem k
  | .sliceToArrayPointer t x => toArrE P t x E k
  | .fieldAddr s x f => fieldAddrE P s x f E k
  | .extract x i => extractE x i E k
  | .indexAddr t x y => indexAddrE P t x y E fun e => normE st.mem e k
  | .store t x y => storeE P t x y E st.mem k
  | .alloc t => allocE P t st k
  | .box _ x => boxE x E st k
  | .build t parts => match P.underlying t with
    | some (.array _ _) => buildArrE P t parts E st.mem k
    | _ => structE P t parts E k
  | .buildSlice t len parts => buildSliceE P t len parts E st k
  | .index t x y => indexE P t x y E k
  | .field t x f => fieldE P t x f E k
  | .slice t x lo hi mx => sliceE P t x lo hi mx E st.mem k
  | .convert s d x => convertE P o s d x E st.mem k
  | .makeSlice t x y => makeSliceE P t x y E st k
  | .nilCheck x => nilCheckE P o x E k
  | .makeInterface t x => makeInterfaceE P t x E k
  | .makeFunc fn first captured => makeFuncE fn first captured E k
  | .makeMap t rv => makeMapE P t rv E st k
  | .lookup t x ix ok => lookupE P t x ix ok E st.mem k
  | .mapUpdate t x ix y => mapUpdateE P t x ix y E st.mem k
  | .insert t x ix y => mapUpdateE P t x ix y E st.mem k
  | .call c => match c.callee with
    | .builtin .delete => match c.args.toList with
      | [x, ix] => match c.argTypes.toList with
        | [t, _] => deleteE P t x ix E st.mem k
        | _ => none
      | _ => none
    | .builtin .len => match c.args.toList with
      | [x] => match c.argTypes.toList with
        | [t] => match aeval E x with
          | some (.mp _) => lenMapE P t x E st.mem k
          | _ => lenE P o t x E k
        | _ => none
      | _ => none
    | .builtin .append => match c.args.toList with
      | [x, y] => match c.argTypes.toList with
        | [t, tx] => bif flatElem P t then appendFE P t tx x y E st k else appendE P t tx x y E st k
        | _ => none
      | _ => none
    | .builtin .min => minE P o false c.args.toList E k
    | .builtin .max => minE P o true c.args.toList E k
    | .builtin .copy => match c.args.toList with
      | [x, y] => match c.argTypes.toList with
        | [t, tx] => bif flatElem P t then copyFE P t tx x y E st.mem k else copyE P t tx x y E st.mem k
        | _ => none
      | _ => none
    | .builtin .clear => match c.args.toList with
      | [x] => match c.argTypes.toList with
        | [t] => clearE P t x E st.mem k
        | _ => none
      | _ => none
    | _ => pureE P o E k
  | _ => pureE P o E k
end
theorem opE_ok (hZ : ZerosOk P) (hT : FlatOk P) {R : Type} {o : Oper} {E : Env} {st : AS} {k : Ent → Option R} {r : R} (h : opE P o E st k = some r) :
    ∃ e, k e = some r ∧ OpOk P o E st.next (find st.mem) e := by
  have still : (∃ v, k ⟨v, [], 0, []⟩ = some r ∧ ∀ m, StillOk P o E m v []) → ∃ e, k e = some r ∧ OpOk P o E st.next (find st.mem) e := fun ⟨v, h1, h2⟩ => ⟨_, h1, (h2 _).op⟩
  have look : (∃ v rd, k ⟨v, [], 0, rd⟩ = some r ∧ StillOk P o E (find st.mem) v rd) → ∃ e, k e = some r ∧ OpOk P o E st.next (find st.mem) e := fun ⟨v, rd, h1, h2⟩ => ⟨_, h1, h2.op⟩
  unfold opE at h
  split at h
  · rename_i x ho; exact still (moveE_ok (.inl ho) h)
  · rename_i x ho; exact still (moveE_ok (.inr ho) h)
  · rename_i ho; exact still (pickE_ok ho h)
  · rename_i ho; exact look (cmpE_ok hT ho h)
  · rename_i ho; exact look (loadXE_ok ho h)
  · rename_i ho; exact still (toArrE_ok ho h)
  · rename_i ho; exact still (fieldAddrE_ok ho h)
  · rename_i ho; exact still (extractE_ok ho h)
  · rename_i ho
    obtain ⟨v, h1, h2⟩ := indexAddrE_ok ho h
    obtain ⟨v', h3, h4⟩ := normE_ok (h2 (find st.mem)) h1
    exact ⟨_, h3, h4.op⟩
  · rename_i ho; exact storeE_ok ho h
  · rename_i ho; exact allocE_ok hZ ho h
  · rename_i ho; exact boxE_ok ho h
  · rename_i ho
    split at h
    · exact still (buildArrE_ok hZ ho h)
    · exact still (structE_ok hZ ho h)
  · rename_i ho; exact buildSliceE_ok hZ ho h
  · rename_i ho; exact still (indexE_ok ho h)
  · rename_i ho; exact still (fieldE_ok ho h)
  · rename_i ho; exact look (sliceE_ok ho h)
  · rename_i ho; exact convertE_ok ho h
  · rename_i ho; exact makeSliceE_ok hZ ho h
  · rename_i ho; exact still (nilCheckE_ok ho h)
  · rename_i ho; exact still (makeInterfaceE_ok ho h)
  · rename_i ho; exact still (makeFuncE_ok ho h)
  · rename_i ho; exact makeMapE_ok ho h
  · rename_i ho; exact look (lookupE_ok hZ ho h)
  · rename_i ho; exact mapUpdateE_ok (.inl ho) h
  · rename_i ho; exact mapUpdateE_ok (.inr ho) h
  · rename_i c ho
    split at h
    · rename_i hc
      split at h
      · rename_i x ix hx
        split at h
        · rename_i t tx ht; exact deleteE_ok ho hc hx ht h
        · cases h
      · cases h
    · rename_i hc
      split at h
      · rename_i x hx
        split at h
        · rename_i t ht
          split at h
          · exact look (lenMapE_ok ho hc hx ht h)
          · exact still (lenE_ok ho hc hx ht h)
        · cases h
      · cases h
    · rename_i hc
      split at h
      · rename_i x y hx
        split at h
        · rename_i t tx ht
          cases hf : flatElem P t with
          | true => rw [hf] at h; exact appendFE_ok hZ ho hc hx ht h
          | false => rw [hf] at h; exact appendE_ok hZ ho hc hx ht h
        · cases h
      · cases h
    · rename_i hc; exact still (minE_ok (isMax := false) ho hc h)
    · rename_i hc; exact still (minE_ok (isMax := true) ho hc h)
    · rename_i hc
      split at h
      · rename_i x y hx
        split at h
        · rename_i t tx ht
          cases hf : flatElem P t with
          | true => rw [hf] at h; exact copyFE_ok ho hc hx ht h
          | false => rw [hf] at h; exact copyE_ok ho hc hx ht h
        · cases h
      · cases h
    · rename_i hc
      split at h
      · rename_i x hx
        split at h
        · rename_i t ht; exact clearE_ok hZ ho hc hx ht h
        · cases h
      · cases h
    · exact still (pureE_ok h)
  · exact still (pureE_ok h)
end
end Go.Sv
namespace Go.Sv
noncomputable section
open Go.RowKit
variable {P : Program}

/-! ### slots, once more -/
structure SRel (κ : Kap) (sz : Nat) (E : Env) (a : Act) : Prop where
  rel : ERel κ E a
  size : sz ≤ a.tmps.size
theorem SRel.mono {κ κ' : Kap} (h : κ.le κ') {sz : Nat} {E : Env} {a : Act} (r : SRel κ sz E a) : SRel κ' sz E a := ⟨r.rel.mono h, r.size⟩
def dstOk (sz : Nat) (d : Option Tmp) : Bool :=
  match d with
  | none => true
  | some d => Nat.blt d sz
def Env.put (E : Env) (d : Option Tmp) (v : AV) : Env :=
  match d with
  | none => E
  | some d => E.set d v
theorem SRel.put {κ : Kap} {sz : Nat} {E : Env} {a : Act} (r : SRel κ sz E a) {d : Option Tmp} (hd : dstOk sz d = true) {v : AV} {v' : Value} (hv : VRel κ v v') : SRel κ sz (E.put d v) (a.put d v') := by
  cases d with
  | none => exact r
  | some d =>
    have hd : d < sz := by simpa [dstOk, Nat.blt_eq] using hd
    have hs := r.size
    exact ⟨r.rel.put (Nat.lt_of_lt_of_le hd hs) hv, by simp [Act.put]; exact hs⟩
section
variable {R : Type}
def putEK (E : Env) (d : Option Tmp) (v : AV) (k : Env → Option R) : Option R :=
  match d with
  | none => k E
  | some d => E.setK d v k
theorem putEK_eq (E : Env) (d : Option Tmp) (v : AV) (k : Env → Option R) : putEK E d v k = k (E.put d v) := by
  cases d with
  | none => rfl
  | some d => exact E.setK_eq d v k
end
/-- What a slot holds may be said again. -/
theorem SRel.again {κ : Kap} {sz : Nat} {E : Env} {a : Act} (r : SRel κ sz E a) {t : Nat} {v : AV} (h : E.get t = v) : SRel κ sz (E.set t v) a := by
  refine ⟨⟨fun t' => ?_, r.rel.defers⟩, r.size⟩
  by_cases e : t' = t
  · subst e
    rcases E.get_set_same t' v with h' | h' <;> rw [h']
    · rw [← h]; exact r.rel.get t'
    · exact vrel_any κ _
  · rw [Env.get_set_ne e]; exact r.rel.get t'

/-! ### memories -/
section
variable {R : Type}
def setRowK : List (Nat × Row) → Nat → Option Row → (List (Nat × Row) → Option R) → Option R
  | [], n, r, k => match r with
    | none => k []
    | some r => k [(n, r)]
  | (i, o) :: t, n, r, k => bif Nat.beq i n then (match r with | none => setRowK t n none k | some r => k ((n, r) :: t)) else setRowK t n r fun t' => k ((i, o) :: t')
def setRowsK : List (Nat × Row) → List (Nat × Option Row) → (List (Nat × Row) → Option R) → Option R
  | m, [], k => k m
  | m, (n, r) :: l, k => setRowK m n r fun m' => setRowsK m' l k
def applyK (st : AS) (e : Ent) (k : AS → Option R) : Option R := natK (st.next + e.nx) fun n => setRowsK st.mem e.eff fun m => k ⟨n, m⟩
theorem setRowK_some {r : R} : ∀ (m : List (Nat × Row)) (n : Nat) (o : Option Row) (k : List (Nat × Row) → Option R), setRowK m n o k = some r → ∃ m', k m' = some r ∧ ∀ x, find m' x = (Mem.set (find m) n o) x
  | [], n, o, k, h => by
    cases o with
    | none => exact ⟨_, h, fun x => by simp [Mem.set, find]⟩
    | some o =>
      refine ⟨_, h, fun x => ?_⟩
      simp only [find, Mem.set]
      by_cases e : x = n
      · subst e; simp
      · rw [beq_false (Ne.symm e), if_neg e]; rfl
  | (i, p) :: t, n, o, k, h => by
    simp only [setRowK] at h
    cases hb : Nat.beq i n with
    | true =>
      rw [hb] at h
      have := Nat.eq_of_beq_eq_true hb
      subst this
      cases o with
      | none =>
        obtain ⟨m', h1, h2⟩ := setRowK_some t i none k h
        refine ⟨m', h1, fun x => ?_⟩
        rw [h2]
        by_cases e : x = i
        · subst e; rw [Mem.set_same, Mem.set_same]
        · rw [Mem.set_ne _ _ e, Mem.set_ne _ _ e]
          simp only [find, beq_false (Ne.symm e), cond_false]
      | some o =>
        refine ⟨_, h, fun x => ?_⟩
        simp only [find]
        by_cases e : x = i
        · subst e; rw [Mem.set_same]; simp
        · rw [Mem.set_ne _ _ e]
          simp only [beq_false (Ne.symm e), cond_false]
    | false =>
      rw [hb] at h
      obtain ⟨t', h1, h2⟩ := setRowK_some t n o _ h
      refine ⟨_, h1, fun x => ?_⟩
      simp only [find]
      have hne : i ≠ n := fun e => by subst e; simp at hb
      by_cases e : x = n
      · subst e
        rw [beq_false hne, cond_false, h2, Mem.set_same, Mem.set_same]
      · rw [Mem.set_ne _ _ e]
        cases Nat.beq i x
        · rw [cond_false, cond_false, h2, Mem.set_ne _ _ e]
        · rfl
theorem setRowsK_some {r : R} : ∀ (l : List (Nat × Option Row)) (m : List (Nat × Row)) (k : List (Nat × Row) → Option R), setRowsK m l k = some r → ∃ m', k m' = some r ∧ find m' = (Mem.sets (find m) l)
  | [], m, k, h => ⟨m, by cases m <;> exact h, rfl⟩
  | (n, o) :: l, m, k, h => by
    have h' : setRowK m n o (fun m' => setRowsK m' l k) = some r := by cases m <;> exact h
    obtain ⟨m1, h1, h2⟩ := setRowK_some m n o _ h'
    obtain ⟨m2, h3, h4⟩ := setRowsK_some l m1 k h1
    exact ⟨m2, h3, by rw [h4, funext h2]; rfl⟩
theorem applyK_some {st : AS} {e : Ent} {k : AS → Option R} {r : R} (h : applyK st e k = some r) : ∃ st', k st' = some r ∧ st'.next = st.next + e.nx ∧ find st'.mem = Mem.sets (find st.mem) e.eff := by
  unfold applyK at h
  rw [natK_eq] at h
  obtain ⟨m', h1, h2⟩ := setRowsK_some _ _ _ h
  exact ⟨_, h1, rfl, h2⟩
end

/-! ### guards -/
def wantE {R : Type} (ops : Array Oper) (o : Oper) (E : Env) (kw ks : Env → Option R) : Option R :=
  match o.guard with
  | none => kw E
  | some (j, want) =>
    match (ops[j]?).bind (·.dst) with
    | none => ks E
    | some t =>
      match E.get t with
      | .bool b => bif b then E.setK t (.bool true) fun E => bif want then kw E else ks E
        else E.setK t (.bool false) fun E => bif want then ks E else kw E
      | .raw (.tuple _) => ks E
      | _ => none
theorem wantE_ok {R : Type} {ops : Array Oper} {o : Oper} {E : Env} {kw ks : Env → Option R} {r : R} (h : wantE ops o E kw ks = some r) :
    ∃ E' b, (if b = true then kw E' else ks E') = some r ∧ ∀ (κ : Kap) (sz : Nat) (a : Act), SRel κ sz E a → Region.wanted o (yielded ops a.tmps) = b ∧ SRel κ sz E' a := by
  unfold wantE at h
  split at h
  · rename_i hg
    exact ⟨E, true, by simpa using h, fun κ sz a hA => ⟨by unfold Region.wanted; rw [hg], hA⟩⟩
  · rename_i j want hg
    split at h
    · rename_i hd
      refine ⟨E, false, by simpa using h, fun κ sz a hA => ⟨?_, hA⟩⟩
      unfold Region.wanted yielded
      rw [hg]
      dsimp only
      rw [hd]; rfl
    · rename_i t hd
      have key : ∀ (a : Act), Region.wanted o (yielded ops a.tmps) = ((match a.tmps[t]? with | some (.bool b) => some b | _ => none) == some want) := by
        intro a
        unfold Region.wanted yielded
        rw [hg]
        dsimp only
        rw [hd]; rfl
      split at h
      · rename_i b hb
        have hval : ∀ (κ : Kap) (sz : Nat) (a : Act), SRel κ sz E a → a.tmps[t]? = some (.bool b) := by
          intro κ sz a hA
          have := hA.rel.get t
          rw [hb] at this
          have := bool_of this
          rw [Array.getD_eq_getD_getElem?] at this
          cases he : a.tmps[t]? with
          | none => rw [he] at this; simp [undef] at this
          | some v => rw [he] at this; simpa using this
        cases b with
        | true =>
          simp only [cond_true, Env.setK_eq] at h
          refine ⟨E.set t (.bool true), want, ?_, fun κ sz a hA => ⟨?_, hA.again hb⟩⟩
          · cases want <;> simpa using h
          · rw [key, hval κ sz a hA]; cases want <;> rfl
        | false =>
          simp only [cond_false, Env.setK_eq] at h
          refine ⟨E.set t (.bool false), !want, ?_, fun κ sz a hA => ⟨?_, hA.again hb⟩⟩
          · cases want <;> simpa using h
          · rw [key, hval κ sz a hA]; cases want <;> rfl
      · rename_i cs hb
        refine ⟨E, false, by simpa using h, fun κ sz a hA => ⟨?_, hA⟩⟩
        rw [key]
        have := hA.rel.get t
        rw [hb] at this
        have hv : a.tmps.getD t undef = .tuple cs := by
          generalize a.tmps.getD t undef = u at this
          cases this; rfl
        rw [Array.getD_eq_getD_getElem?] at hv
        cases he : a.tmps[t]? with
        | none => rfl
        | some v => rw [he] at hv; simp only [Option.getD_some] at hv; rw [hv]; rfl
      · cases h

/-- Names below a bound are as they were. -/
structure Kap.leN (nb : Nat) (κ κ' : Kap) : Prop where
  loc : ∀ n, n < nb → κ'.loc n = κ.loc n
  st : ∀ b cs, κ.st b = some cs → κ'.st b = some cs
  gh : κ'.gh = κ.gh
  sz : ∀ b s, κ.sz b = some s → κ'.sz b = some s
theorem Kap.leN_refl (nb : Nat) (κ : Kap) : Kap.leN nb κ κ := ⟨fun _ _ => rfl, fun _ _ h => h, rfl, fun _ _ h => h⟩
theorem Kap.leN_trans {nb nb' : Nat} (hn : nb ≤ nb') {a b c : Kap} (h : Kap.leN nb a b) (k : Kap.leN nb' b c) : Kap.leN nb a c :=
  ⟨fun n hn' => (k.loc n (by omega)).trans (h.loc n hn'), fun n x e => k.st n x (h.st n x e), k.gh.trans h.gh, fun n x e => k.sz n x (h.sz n x e)⟩
theorem Kap.leN.mono {nb nb' : Nat} {a b : Kap} (h : Kap.leN nb' a b) (hn : nb ≤ nb') : Kap.leN nb a b := ⟨fun n hn' => h.loc n (by omega), h.st, h.gh, h.sz⟩
theorem Kap.leN.le {nb : Nat} {κ κ' : Kap} (h : Kap.leN nb κ κ') (hf : ∀ n, nb ≤ n → κ.loc n = none) : κ.le κ' :=
  ⟨(fun n x e => by
    by_cases hn : n < nb
    · rw [h.loc n hn]; exact e
    · rw [hf n (by omega)] at e; cases e), h.st, h.gh, h.sz⟩

/-! ### calls -/
def SoundFn (P : Program) (g : FuncId) (vs : List AV) (st : AS) (v : AV) (st' : AS) : Prop :=
  ∀ (κ : Kap) (us : List Value) (w : World), CRel κ vs us → Rel κ st w →
    Calls P g us.toArray w fun en w' => ∃ κ' v', Kap.leN st.next κ κ' ∧ en = .returned v' ∧ VRel κ' v v' ∧ Rel κ' st' w' ∧ Fr κ (find st.mem) w κ' (find st'.mem) w'
/-- Likewise, told by what changes. -/
def CallEnt (P : Program) (g : FuncId) (vs : List AV) (next : Nat) (m : Mem) (e : Ent) : Prop :=
  ∀ (κ : Kap) (us : List Value) (w : World) (M : Mem), CRel κ vs us → MRel κ M w → (∀ n ∈ e.rd, M n = m n) → (∀ n, next ≤ n → n < next + e.nx → κ.loc n = none) →
    Calls P g us.toArray w fun en w' => ∃ κ' v', κ.le κ' ∧ (∀ n, n < next ∨ next + e.nx ≤ n → κ'.loc n = κ.loc n) ∧ en = .returned v' ∧ VRel κ' e.v v' ∧ MRel κ' (M.sets e.eff) w' ∧ Fr κ M w κ' (M.sets e.eff) w'
theorem CallEnt.sound {g : FuncId} {vs : List AV} {st st' : AS} {e : Ent} (h : CallEnt P g vs st.next (find st.mem) e) (h1 : st'.next = st.next + e.nx) (h2 : find st'.mem = Mem.sets (find st.mem) e.eff) : SoundFn P g vs st e.v st' := by
  intro κ us w hl hR
  refine (h κ us w (find st.mem) hl hR.mem (fun _ _ => rfl) (fun n hn _ => hR.fresh n hn)).mono fun en w' he => ?_
  obtain ⟨κ', v', a1, a2, a3, a4, a5, a6⟩ := he
  refine ⟨κ', v', ⟨fun n hn => a2 n (.inl hn), a1.st, a1.gh, a1.sz⟩, a3, a4, ⟨fun n hn => ?_, by rw [h2]; exact a5⟩, by rw [h2]; exact a6⟩
  rw [a2 n (.inr (by omega))]; exact hR.fresh n (by omega)

abbrev CallT (R : Type) := FuncId → List AV → AS → (AV → AS → Option R) → Option R
def CallOk (P : Program) {R : Type} (call : CallT R) : Prop :=
  ∀ g vs st (k : AV → AS → Option R) r, vs.all (fun x => !isArr x) = true → call g vs st k = some r → ∃ v st', k v st' = some r ∧ st.next ≤ st'.next ∧ SoundFn P g vs st v st'

/-- Is a method's receiver what the interface holds, as it is? -/
def recvOk (d : TypeDesc) (b : Bool) : Bool :=
  match d with
  | .pointer _ => b
  | _ => !b
/-- The method that a call through an interface comes to. -/
def invokeC (P : Program) (c : Call) (f : Operand) (name : String) (E : Env) : Option (FuncId × List AV) :=
  match aeval E f with
  | some (.ifc t x) => match P.info? t with
    | some i => match i.methods.find? (fun m => m.name == name) with
      | some m => match m.path.toList with
        | [] => match m.func with
          | some (g, pr) => match P.underlying t with
            | some d => bif recvOk d pr then
                match aevals E c.args.toList with
                | some vs => match P.funcs[g]? with
                  | some fn => match fn.body with
                    | some _ => bif (x :: vs).all (fun x => !isArr x) then some (g, x :: vs) else none
                    | none => none
                  | none => none
                | none => none
              else none
            | none => none
          | none => none
        | _ => none
      | none => none
    | none => none
  | _ => none
theorem invokeC_all {c : Call} {f : Operand} {name : String} {E : Env} {g : FuncId} {vs : List AV} (h : invokeC P c f name E = some (g, vs)) : vs.all (fun x => !isArr x) = true := by
  unfold invokeC at h
  split at h
  · split at h
    · split at h
      · split at h
        · split at h
          · split at h
            · obtain ⟨_, h⟩ := cond_some h
              split at h
              · split at h
                · split at h
                  · obtain ⟨ha, h⟩ := cond_some h
                    simp only [Option.some.injEq, Prod.mk.injEq] at h
                    obtain ⟨rfl, rfl⟩ := h
                    exact ha
                  · cases h
                · cases h
              · cases h
            · cases h
          · cases h
        · cases h
      · cases h
    · cases h
  · cases h
/-- The function that an operation calls, if that has a body; with what. -/
def callee (P : Program) (o : Oper) (E : Env) : Option (FuncId × List AV) :=
  match o.op with
  | .call c => match c.callee with
    | .value f => match aeval E f with
      | some (.fn g a b) => match aevals E c.args.toList with
        | some vs => match P.funcs[g]? with
          | some fn => match fn.body with
            | some _ => bif (a ++ (vs ++ b)).all (fun x => !isArr x) then some (g, a ++ (vs ++ b)) else none
            | none => none
          | none => none
        | none => none
      | _ => none
    | .invoke f name => invokeC P c f name E
    | _ => none
  | _ => none
theorem callee_all {o : Oper} {E : Env} {g : FuncId} {vs : List AV} (h : callee P o E = some (g, vs)) : vs.all (fun x => !isArr x) = true := by
  unfold callee at h
  split at h
  · split at h
    · split at h
      · split at h
        · split at h
          · split at h
            · obtain ⟨ha, h⟩ := cond_some h
              simp only [Option.some.injEq, Prod.mk.injEq] at h
              obtain ⟨rfl, rfl⟩ := h
              exact ha
            · cases h
          · cases h
        · cases h
      · cases h
    · exact invokeC_all h
    · cases h
  · cases h
def NamesOk (P : Program) : Prop := ∀ (g : Nat) (fn : Func), P.funcs[g]? = some fn → (fn.name == "runtime.NumGoroutine") = false
theorem run_typeInfo {t : TypeId} {i : TypeInfo} (h : P.info? t = some i) (w : World) : (typeInfo t).run P w = .ok i w := by
  simp [typeInfo, program, bind, Sem.bind, Sem.run, h, pure]
theorem run_receiver {t : TypeId} {d : TypeDesc} (ht : P.underlying t = some d) {pr : Bool} (hd : recvOk d pr = true) (y : Value) (nm : Option String) (w : World) : (receiverAt t (.val y) pr nm).run P w = .ok y w := by
  unfold receiverAt
  refine (run_bind_ok (run_underlying ht w)).trans ?_
  cases d <;> cases pr <;> first | rfl | cases hd
theorem invoke_run (hN : NamesOk P) {o : Oper} {c : Call} {f : Operand} {name : String} (ho : o.op = .call c) (hc : c.callee = .invoke f name) {E : Env} {g : FuncId} {vs : List AV} (h : invokeC P c f name E = some (g, vs)) {κ : Kap} {a : Act} (hA : AOn κ o E a) (w : World) :
    ∃ us, CRel κ vs us ∧ (execOp a.eval o).run P w = .ok (.enter g us.toArray) w := by
  unfold invokeC at h
  split at h
  · rename_i t x hf
    split at h
    · rename_i i hi
      split at h
      · rename_i m hm
        split at h
        · rename_i hpath
          split at h
          · rename_i g' pr hfn
            split at h
            · rename_i d hd
              obtain ⟨hrec, h⟩ := cond_some h
              split at h
              · rename_i vs' hvs
                split at h
                · rename_i fn hg
                  split at h
                  · rename_i body hb
                    obtain ⟨_, h⟩ := cond_some h
                    simp only [Option.some.injEq, Prod.mk.injEq] at h
                    obtain ⟨rfl, rfl⟩ := h
                    have hmf : f ∈ o.op.operands := by rw [ho]; simp [Op.operands, Call.operands, hc]
                    have hrf := hA f hmf _ hf
                    have hargs := aevals_ok c.args.toList vs' (fun x hx v hv => hA x (by rw [ho]; simp only [Op.operands, Call.operands]; simp at hx; simp [hx]) v hv) hvs
                    generalize hef : a.eval f = ef at hrf
                    cases hrf with
                    | ifc _ _ y h1 h2 =>
                      refine ⟨y :: c.args.toList.map a.eval, ?_, ?_⟩
                      · have := h1.append hargs
                        simpa using this
                      simp only [execOp, ho]
                      unfold resolve
                      rw [hc]
                      refine (run_bind_ok (a := ⟨.fn (.method name) #[], #[.iface t y] ++ c.args.map a.eval⟩) (w' := w) (by rw [← hef]; rfl)).trans ?_
                      unfold invoke
                      have e0 : (#[Value.iface t y] ++ c.args.map a.eval)[0]? = some (Value.iface t y) := by rw [Array.getElem?_append_left (by simp)]; rfl
                      simp only [e0]
                      have e1 : (#[Value.iface t y] ++ c.args.map a.eval).extract 1 (#[Value.iface t y] ++ c.args.map a.eval).size = c.args.map a.eval := by
                        apply Array.ext'
                        simp only [Array.toList_extract, Array.toList_append, List.cons_append, List.nil_append, Array.size_append, List.extract_eq_take_drop, List.drop_succ_cons, List.drop_zero]
                        exact List.take_of_length_le (by simp)
                      rw [e1]
                      unfold callMethod
                      refine (run_bind_ok (e := program) (a := P) (w' := w) rfl).trans ?_
                      obtain ⟨n, hn⟩ : ∃ n, P.types.size + Made.depth = n + 1 := ⟨P.types.size + Made.depth - 1, by unfold Made.depth; omega⟩
                      rw [hn]
                      refine (run_bind_ok (a := (g', y)) (w' := w) ?_).trans ?_
                      · unfold method
                        refine (run_bind_ok (run_typeInfo hi w)).trans ?_
                        rw [hm]
                        simp only [hpath, hfn]
                        refine (run_bind_ok (a := (t, Place.val y)) (w' := w) rfl).trans ?_
                        refine (run_bind_ok (run_receiver hd hrec y _ w)).trans rfl
                      · unfold callFunc
                        refine (run_bind_ok (e := program) (a := P) (w' := w) rfl).trans ?_
                        simp only [hg, hN g' fn hg, Bool.false_eq_true, if_false, hb, Option.isNone_some]
                        have : (#[y] ++ c.args.map a.eval : Array Value) = (y :: c.args.toList.map a.eval).toArray := by
                          apply Array.ext'; simp
                        rw [this]; rfl
                  · cases h
                · cases h
              · cases h
            · cases h
          · cases h
        · cases h
      · cases h
    · cases h
  · cases h
theorem callee_run (hN : NamesOk P) {o : Oper} {E : Env} {g : FuncId} {vs : List AV} (h : callee P o E = some (g, vs)) {κ : Kap} {a : Act} (hA : AOn κ o E a) (w : World) :
    ∃ us, CRel κ vs us ∧ (execOp a.eval o).run P w = .ok (.enter g us.toArray) w := by
  unfold callee at h
  split at h
  · rename_i c ho
    split at h
    · rename_i f hc
      split at h
      · rename_i g' x y hf
        split at h
        · rename_i vs' hvs
          split at h
          · rename_i fn hg
            split at h
            · rename_i body hb
              obtain ⟨_, h⟩ := cond_some h
              simp only [Option.some.injEq, Prod.mk.injEq] at h
              obtain ⟨rfl, rfl⟩ := h
              have hmf : f ∈ o.op.operands := by rw [ho]; simp [Op.operands, Call.operands, hc]
              have hrf := hA f hmf _ hf
              have hargs := aevals_ok c.args.toList vs' (fun x hx v hv => hA x (by rw [ho]; simp only [Op.operands, Call.operands]; simp at hx; simp [hx]) v hv) hvs
              generalize hef : a.eval f = ef at hrf
              cases hrf with
              | fn _ _ _ xs ys h1 h2 _ =>
                refine ⟨xs ++ (c.args.toList.map a.eval ++ ys), h1.append (hargs.append h2), ?_⟩
                simp only [execOp, ho]
                unfold resolve
                rw [hc]
                refine (run_bind_ok (a := ⟨.fn (.func g') ⟨ys⟩, ⟨xs⟩ ++ c.args.map a.eval⟩) (w' := w) (by simp only [hef, Deferred.ofValue]; rfl)).trans ?_
                unfold invoke callFunc
                refine (run_bind_ok (e := program) (a := P) (w' := w) rfl).trans ?_
                simp only [hg, hN g' fn hg, Bool.false_eq_true, if_false, hb, Option.isNone_some]
                have : (⟨xs⟩ ++ c.args.map a.eval ++ ⟨ys⟩ : Array Value) = (xs ++ (c.args.toList.map a.eval ++ ys)).toArray := by
                  apply Array.ext'; simp
                rw [this]; rfl
            · cases h
          · cases h
        · cases h
      · cases h
    · rename_i f name hc
      exact invoke_run hN ho hc h hA w
    · cases h
  · cases h

/-! ### one operation behind the other -/
section
variable {R : Type} (P)
def opsE (call : CallT R) (ops : Array Oper) : List Oper → Env → AS → (Env → AS → Option R) → Option R
  | [], E, st, k => k E st
  | o :: rest, E, st, k =>
    wantE ops o E (fun E =>
      match callee P o E with
      | some (g, vs) => call g vs st fun v st => putEK E o.dst v fun E => opsE call ops rest E st k
      | none => opE P o E st fun e => applyK st e fun st => putEK E o.dst e.v fun E => opsE call ops rest E st k)
      (fun E => putEK E o.dst (.raw undef) fun E => opsE call ops rest E st k)
end
def dstsOk (sz : Nat) (l : List Oper) : Bool := l.all fun o => dstOk sz o.dst
theorem opsE_ok (hZ : ZerosOk P) (hT : FlatOk P) (hN : NamesOk P) {R : Type} {call : CallT R} (hc : CallOk P call) {ops : Array Oper} {sz : Nat} :
    ∀ (l : List Oper) (E : Env) (st : AS) (k : Env → AS → Option R) (r : R), dstsOk sz l = true → opsE P call ops l E st k = some r → ∃ E' st', k E' st' = some r ∧ st.next ≤ st'.next ∧
      ∀ (κ : Kap) (a : Act) (w : World) (Q : Exit → Act → World → Prop), SRel κ sz E a → Rel κ st w →
        (∀ κ' a' w', Kap.leN st.next κ κ' → SRel κ' sz E' a' → Rel κ' st' w' → Fr κ (find st.mem) w κ' (find st'.mem) w' → Q .normal a' w') → wpList P ops Q l a w
  | [], E, st, k, r, _, h => ⟨E, st, h, Nat.le_refl _, fun κ a w Q hA hR hQ => hQ κ a w (Kap.leN_refl _ κ) hA hR (Fr.refl _ _ _)⟩
  | o :: l, E, st, k, r, hd, h => by
    simp only [dstsOk, List.all_cons, Bool.and_eq_true] at hd
    simp only [opsE] at h
    obtain ⟨E1, b, h1, h2⟩ := wantE_ok h
    cases b with
    | true =>
      simp only [if_true] at h1
      split at h1
      · rename_i g vs hcal
        obtain ⟨v, st1, h3, hn1, hs⟩ := hc _ _ _ _ _ (callee_all hcal) h1
        rw [putEK_eq] at h3
        obtain ⟨E', st', hk, hn2, hrest⟩ := opsE_ok hZ hT hN hc l _ st1 k r hd.2 h3
        refine ⟨E', st', hk, Nat.le_trans hn1 hn2, fun κ a w Q hA hR hQ => ?_⟩
        obtain ⟨hw, hA1⟩ := h2 κ sz a hA
        simp only [wpList, hw, if_true]
        refine .inl ?_
        obtain ⟨us, hus, hrun⟩ := callee_run hN hcal (hA1.rel.on o) w
        unfold Oper.wp
        rw [hrun, Oper.upon_enter]
        refine (hs κ us w hus hR).mono fun en w' he => ?_
        obtain ⟨κ', v', a1, rfl, a3, a4, a5⟩ := he
        exact hrest κ' _ w' Q ((hA1.mono (a1.le hR.fresh)).put hd.1 a3) a4 fun κ2 a2 w2 b1 b2 b3 b4 => hQ κ2 a2 w2 (Kap.leN_trans hn1 a1 b1) b2 b3 (a5.trans b4)
      · obtain ⟨e, h3, hop⟩ := opE_ok hZ hT h1
        obtain ⟨st1, h4, hn1, hm1⟩ := applyK_some h3
        rw [putEK_eq] at h4
        obtain ⟨E', st', hk, hn2, hrest⟩ := opsE_ok hZ hT hN hc l _ st1 k r hd.2 h4
        have hn1' : st.next ≤ st1.next := by omega
        refine ⟨E', st', hk, Nat.le_trans hn1' hn2, fun κ a w Q hA hR hQ => ?_⟩
        obtain ⟨hw, hA1⟩ := h2 κ sz a hA
        simp only [wpList, hw, if_true]
        refine .inl (hop κ a w (find st.mem) _ _ (hA1.rel.on o) hR.mem (fun _ _ => rfl) (fun n hn _ => hR.fresh n hn) fun κ' v' w' a1 a2 a3 a4 a5 => ?_)
        refine hrest κ' _ w' Q ((hA1.mono a1).put hd.1 a3) ⟨fun n hn => ?_, by rw [hm1]; exact a4⟩ fun κ2 aa2 w2 b1 b2 b3 b4 => hQ κ2 aa2 w2 (Kap.leN_trans hn1' ⟨fun n hn => a2 n (.inl hn), a1.st, a1.gh, a1.sz⟩ b1) b2 b3 ?_
        · rw [a2 n (.inr (by omega))]; exact hR.fresh n (by omega)
        · rw [hm1] at b4; exact a5.trans b4
    | false =>
      simp only [Bool.false_eq_true, if_false, putEK_eq] at h1
      obtain ⟨E', st', hk, hn2, hrest⟩ := opsE_ok hZ hT hN hc l _ st k r hd.2 h1
      refine ⟨E', st', hk, hn2, fun κ a w Q hA hR hQ => ?_⟩
      obtain ⟨hw, hA1⟩ := h2 κ sz a hA
      simp only [wpList, hw, Bool.false_eq_true, if_false]
      exact hrest κ _ w Q (hA1.put hd.1 (.raw undef .nil)) hR hQ
end
end Go.Sv
namespace Go.Sv
noncomputable section
open Go.RowKit
variable {P : Program}

def bnds (f : AV → Bool) : List AV → Bool
  | [] => true
  | x :: xs => f x && bnds f xs
/-- All names that it bears lie below a bound. -/
def bndN : Nat → Nat → AV → Bool
  | 0, _, _ => false
  | d + 1, n, x =>
    match x with
    | .ptr m _ _ => Nat.blt m n
    | .slc m _ _ _ _ _ _ => Nat.blt m n
    | .mp m => Nat.blt m n
    | .agg c => bnds (bndN d n) c
    | .tup c => bnds (bndN d n) c
    | .ifc _ x => bndN d n x
    | .fn _ a b => bnds (bndN d n) a && bnds (bndN d n) b
    | _ => true
def rowBnd (n : Nat) : Row → Bool
  | .cells c _ _ => bnds (bndN 6 n) c
  | .map _ _ _ => true
  | .ptab _ => true
def accOk (next : Nat) : List (Nat × Row) → Bool
  | [] => true
  | p :: m => (Nat.blt p.1 next && rowBnd next p.2) && accOk next m
def namesL (f : AV → List Nat → List Nat) : List AV → List Nat → List Nat
  | [], l => l
  | x :: xs, l => f x (namesL f xs l)
def namesN : Nat → AV → List Nat → List Nat
  | 0, _, l => l
  | d + 1, x, l =>
    match x with
    | .ptr m _ _ => m :: l
    | .slc m _ _ _ _ _ _ => m :: l
    | .mp m => m :: l
    | .agg c => namesL (namesN d) c l
    | .tup c => namesL (namesN d) c l
    | .ifc _ x => namesN d x l
    | .fn _ a b => namesL (namesN d) a (namesL (namesN d) b l)
    | _ => l
def rowBears : Row → List Nat → List Nat
  | .cells c _ _, l => namesL (namesN 6) c l
  | .map _ _ _, l => l
  | .ptab _, l => l
def rowNames : List (Nat × Row) → List Nat
  | [] => []
  | p :: m => p.1 :: rowNames m

/-! ### a tree of rows -/
inductive RT where
  | nil
  | node (l : RT) (v : Option Row) (r : RT)
def RT.get (t : RT) : Nat → Option Row := @RT.rec (fun _ => Nat → Option Row) (fun _ => none) (fun _ v _ gl gr n => @Bool.rec (fun _ => Option Row) (@Bool.rec (fun _ => Option Row) (gr (Nat.sub (Nat.div n 2) 1)) (gl (Nat.div n 2)) (Nat.beq (Nat.mod n 2) 1)) v (Nat.beq n 0)) t
theorem RT.get_node (l r : RT) (v : Option Row) (n : Nat) : (RT.node l v r).get n = bif Nat.beq n 0 then v else bif Nat.beq (n % 2) 1 then l.get (n / 2) else r.get (n / 2 - 1) := by
  show @Bool.rec (fun _ => Option Row) (@Bool.rec (fun _ => Option Row) (r.get (n / 2 - 1)) (l.get (n / 2)) (Nat.beq (n % 2) 1)) v (Nat.beq n 0) = _
  cases Nat.beq n 0 <;> cases Nat.beq (n % 2) 1 <;> rfl
theorem RT.get_nil (n : Nat) : RT.nil.get n = none := rfl
def RT.ins : Nat → RT → Nat → Row → RT
  | 0, t, _, _ => t
  | d + 1, .nil, n, x => bif Nat.beq n 0 then .node .nil (some x) .nil else bif Nat.beq (n % 2) 1 then .node (RT.ins d .nil (n / 2) x) none .nil else .node .nil none (RT.ins d .nil (n / 2 - 1) x)
  | d + 1, .node l v r, n, x => bif Nat.beq n 0 then .node l (some x) r else bif Nat.beq (n % 2) 1 then .node (RT.ins d l (n / 2) x) v r else .node l v (RT.ins d r (n / 2 - 1) x)
section
variable {R : Type}
def RT.insK (d : Nat) : RT → Nat → Row → (RT → Option R) → Option R := @Nat.rec (fun _ => RT → Nat → Row → (RT → Option R) → Option R) (fun t _ _ k => k t)
  (fun _ ih t => @RT.rec (fun _ => (RT → Nat → Row → (RT → Option R) → Option R) → Nat → Row → (RT → Option R) → Option R)
    (fun ih n x k => @Bool.rec (fun _ => Option R) (@Bool.rec (fun _ => Option R) (ih .nil (Nat.sub (Nat.div n 2) 1) x fun r => k (.node .nil none r)) (ih .nil (Nat.div n 2) x fun l => k (.node l none .nil)) (Nat.beq (Nat.mod n 2) 1)) (k (.node .nil (some x) .nil)) (Nat.beq n 0))
    (fun l v r _ _ ih n x k => @Bool.rec (fun _ => Option R) (@Bool.rec (fun _ => Option R) (ih r (Nat.sub (Nat.div n 2) 1) x fun r => k (.node l v r)) (ih l (Nat.div n 2) x fun l => k (.node l v r)) (Nat.beq (Nat.mod n 2) 1)) (k (.node l (some x) r)) (Nat.beq n 0)) t ih) d
theorem RT.insK_nil (d n : Nat) (x : Row) (k : RT → Option R) : RT.insK (d + 1) .nil n x k = bif Nat.beq n 0 then k (.node .nil (some x) .nil) else bif Nat.beq (n % 2) 1 then RT.insK d .nil (n / 2) x fun l => k (.node l none .nil) else RT.insK d .nil (n / 2 - 1) x fun r => k (.node .nil none r) := by
  show @Bool.rec (fun _ => Option R) (@Bool.rec (fun _ => Option R) (RT.insK d .nil (n / 2 - 1) x fun r => k (.node .nil none r)) (RT.insK d .nil (n / 2) x fun l => k (.node l none .nil)) (Nat.beq (n % 2) 1)) (k (.node .nil (some x) .nil)) (Nat.beq n 0) = _
  cases Nat.beq n 0 <;> cases Nat.beq (n % 2) 1 <;> rfl
theorem RT.insK_node (d : Nat) (l r : RT) (v : Option Row) (n : Nat) (x : Row) (k : RT → Option R) : RT.insK (d + 1) (.node l v r) n x k = bif Nat.beq n 0 then k (.node l (some x) r) else bif Nat.beq (n % 2) 1 then RT.insK d l (n / 2) x fun l => k (.node l v r) else RT.insK d r (n / 2 - 1) x fun r => k (.node l v r) := by
  show @Bool.rec (fun _ => Option R) (@Bool.rec (fun _ => Option R) (RT.insK d r (n / 2 - 1) x fun r => k (.node l v r)) (RT.insK d l (n / 2) x fun l => k (.node l v r)) (Nat.beq (n % 2) 1)) (k (.node l (some x) r)) (Nat.beq n 0) = _
  cases Nat.beq n 0 <;> cases Nat.beq (n % 2) 1 <;> rfl
theorem RT.insK_eq : ∀ (d : Nat) (t : RT) (n : Nat) (x : Row) (k : RT → Option R), RT.insK d t n x k = k (RT.ins d t n x)
  | 0, t, _, _, k => by simp only [RT.ins]; rfl
  | d + 1, .nil, n, x, k => by
    simp only [RT.insK_nil, RT.ins, RT.insK_eq d]
    cases Nat.beq n 0 <;> cases Nat.beq (n % 2) 1 <;> rfl
  | d + 1, .node l v r, n, x, k => by
    simp only [RT.insK_node, RT.ins, RT.insK_eq d]
    cases Nat.beq n 0 <;> cases Nat.beq (n % 2) 1 <;> rfl
end
theorem RT.get_ins : ∀ (d : Nat) (t : RT) (n m : Nat) (x : Row), n < d → (RT.ins d t n x).get m = if m = n then some x else t.get m
  | 0, t, n, m, x, h => by omega
  | d + 1, t, n, m, x, h => by
    have go : ∀ (l r : RT) (v : Option Row), (∀ k, (RT.node l v r).get k = t.get k ∨ (t = .nil ∧ l = .nil ∧ r = .nil ∧ v = none)) →
        (RT.get (bif Nat.beq n 0 then .node l (some x) r else bif Nat.beq (n % 2) 1 then .node (RT.ins d l (n / 2) x) v r else .node l v (RT.ins d r (n / 2 - 1) x)) m = if m = n then some x else (RT.node l v r).get m) := by
      intro l r v _
      cases h0 : Nat.beq n 0 with
      | true =>
        have := Nat.eq_of_beq_eq_true h0
        subst this
        simp only [cond_true, RT.get_node]
        by_cases e : m = 0
        · subst e; rfl
        · rw [if_neg e, beq_false e, cond_false, cond_false]
      | false =>
        have a0 : n ≠ 0 := fun e => by subst e; simp at h0
        simp only [cond_false]
        cases h1 : Nat.beq (n % 2) 1 with
        | true =>
          have a1 := Nat.eq_of_beq_eq_true h1
          simp only [cond_true, RT.get_node]
          by_cases e : m = n
          · subst e
            rw [if_pos rfl, h0, h1, cond_false, cond_true, RT.get_ins d l _ _ x (by omega), if_pos rfl]
          · rw [if_neg e]
            cases h2 : Nat.beq m 0 with
            | true => rfl
            | false =>
              have b0 : m ≠ 0 := fun e => by subst e; simp at h2
              cases h3 : Nat.beq (m % 2) 1 with
              | true =>
                have b1 := Nat.eq_of_beq_eq_true h3
                simp only [cond_false, cond_true]
                rw [RT.get_ins d l _ _ x (by omega), if_neg (by omega)]
              | false => rfl
        | false =>
          have a1 : n % 2 ≠ 1 := fun e => by rw [e] at h1; simp at h1
          simp only [cond_false, RT.get_node]
          by_cases e : m = n
          · subst e
            rw [if_pos rfl, h0, h1, cond_false, cond_false, RT.get_ins d r _ _ x (by omega), if_pos rfl]
          · rw [if_neg e]
            cases h2 : Nat.beq m 0 with
            | true => rfl
            | false =>
              have b0 : m ≠ 0 := fun e => by subst e; simp at h2
              cases h3 : Nat.beq (m % 2) 1 with
              | true => rfl
              | false =>
                have b1 : m % 2 ≠ 1 := fun e => by rw [e] at h3; simp at h3
                simp only [cond_false]
                rw [RT.get_ins d r _ _ x (by omega), if_neg (by omega)]
    cases t with
    | nil =>
      have := go .nil .nil none fun k => .inr ⟨rfl, rfl, rfl, rfl⟩
      have e : ∀ k, (RT.node .nil none .nil).get k = RT.nil.get k := fun k => by
        simp only [RT.get_node, RT.get_nil]
        cases Nat.beq k 0 <;> cases Nat.beq (k % 2) 1 <;> rfl
      rw [e] at this
      exact this
    | node l v r => exact go l r v fun k => .inl rfl
section
variable {R : Type}
def buildK : List (Nat × Row) → (RT → Option R) → Option R
  | [], k => k .nil
  | p :: l, k => buildK l fun T => RT.insK (p.1 + 1) T p.1 p.2 k
theorem buildK_some {r : R} : ∀ (l : List (Nat × Row)) (k : RT → Option R), buildK l k = some r → ∃ T, k T = some r ∧ ∀ n, T.get n = find l n
  | [], k, h => ⟨_, h, fun n => rfl⟩
  | (i, x) :: l, k, h => by
    simp only [buildK] at h
    obtain ⟨T, h1, h2⟩ := buildK_some l _ h
    rw [RT.insK_eq] at h1
    refine ⟨_, h1, fun n => ?_⟩
    rw [RT.get_ins _ _ _ _ _ (Nat.lt_succ_self _), h2]
    simp only [find]
    by_cases e : n = i
    · subst e; rw [if_pos rfl]; simp
    · rw [if_neg e, beq_false (Ne.symm e), cond_false]
/-- The rows that names reach. -/
def reachK (T : RT) : Nat → List Nat → List (Nat × Row) → RT → (List (Nat × Row) → RT → Option R) → Option R
  | fuel + 1, n :: todo, acc, A, k =>
    match A.get n with
    | some _ => reachK T fuel todo acc A k
    | none => match T.get n with
      | none => reachK T fuel todo acc A k
      | some row => RT.insK (n + 1) A n row fun A' => reachK T fuel (rowBears row todo) ((n, row) :: acc) A' k
  | _, _, acc, A, k => k acc A
theorem reachK_some {T : RT} {r : R} : ∀ (fuel : Nat) (todo : List Nat) (acc : List (Nat × Row)) (A : RT) (k : List (Nat × Row) → RT → Option R), reachK T fuel todo acc A k = some r → (∀ n, A.get n = find acc n) → (∀ n x, find acc n = some x → T.get n = some x) →
    ∃ acc' A', k acc' A' = some r ∧ (∀ n, A'.get n = find acc' n) ∧ ∀ n x, find acc' n = some x → T.get n = some x
  | 0, todo, acc, A, k, h, h1, h2 => ⟨acc, A, by cases todo <;> exact h, h1, h2⟩
  | fuel + 1, [], acc, A, k, h, h1, h2 => ⟨acc, A, h, h1, h2⟩
  | fuel + 1, n :: todo, acc, A, k, h, h1, h2 => by
    simp only [reachK] at h
    split at h
    · exact reachK_some fuel todo acc A k h h1 h2
    · split at h
      · exact reachK_some fuel todo acc A k h h1 h2
      · rename_i row hrow
        rw [RT.insK_eq] at h
        refine reachK_some fuel _ _ _ k h (fun m => ?_) (fun m x hx => ?_)
        · rw [RT.get_ins _ _ _ _ _ (Nat.lt_succ_self _), h1]
          simp only [find]
          by_cases e : m = n
          · subst e; rw [if_pos rfl]; simp
          · rw [if_neg e, beq_false (Ne.symm e), cond_false]
        · simp only [find] at hx
          cases hb : Nat.beq n m with
          | true =>
            rw [hb, cond_true] at hx
            have := Nat.eq_of_beq_eq_true hb
            subst this; rw [hrow]; exact hx
          | false => rw [hb, cond_false] at hx; exact h2 m x hx
def restK (A : RT) : List (Nat × Row) → (List (Nat × Row) → Option R) → Option R
  | [], k => k []
  | p :: l, k =>
    match A.get p.1 with
    | none => restK A l fun t => k (p :: t)
    | some _ => restK A l k
theorem restK_some {A : RT} {r : R} : ∀ (l : List (Nat × Row)) (k : List (Nat × Row) → Option R), restK A l k = some r → ∃ rest, k rest = some r ∧ ∀ n, find rest n = match A.get n with | some _ => none | none => find l n
  | [], k, h => ⟨_, h, fun n => by simp only [find]; cases A.get n <;> rfl⟩
  | (i, x) :: l, k, h => by
    simp only [restK] at h
    split at h
    · rename_i ha
      obtain ⟨rest, h1, h2⟩ := restK_some l _ h
      refine ⟨_, h1, fun n => ?_⟩
      simp only [find, h2]
      by_cases e : n = i
      · subst e; simp [ha]
      · rw [beq_false (Ne.symm e), cond_false, cond_false]
    · rename_i y ha
      obtain ⟨rest, h1, h2⟩ := restK_some l _ h
      refine ⟨rest, h1, fun n => ?_⟩
      rw [h2]
      simp only [find]
      by_cases e : n = i
      · subst e; simp [ha]
      · rw [beq_false (Ne.symm e), cond_false]
/-- The rows that names reach, and the others. -/
def partT (m : List (Nat × Row)) (ns : List Nat) (k : List (Nat × Row) → List (Nat × Row) → Option R) : Option R :=
  buildK m fun T => reachK T 100000 ns [] .nil fun acc A => restK A m fun rest => k acc rest
theorem partT_some {m : List (Nat × Row)} {ns : List Nat} {k : List (Nat × Row) → List (Nat × Row) → Option R} {r : R} (h : partT m ns k = some r) :
    ∃ acc rest, k acc rest = some r ∧ (∀ n x, find acc n = some x → find m n = some x) ∧ ∀ n, find rest n = match find acc n with | some _ => none | none => find m n := by
  unfold partT at h
  obtain ⟨T, h1, h2⟩ := buildK_some _ _ h
  obtain ⟨acc, A, h3, h4, h5⟩ := reachK_some _ _ _ _ _ h1 (fun n => rfl) (fun n x e => by simp [find] at e)
  obtain ⟨rest, h6, h7⟩ := restK_some _ _ h3
  exact ⟨acc, rest, h6, fun n x e => by rw [← h2]; exact h5 n x e, fun n => by rw [h7, h4]⟩
def appK : List (Nat × Row) → List (Nat × Row) → (List (Nat × Row) → Option R) → Option R
  | [], l, k => k l
  | x :: xs, l, k => appK xs l fun t => k (x :: t)
theorem appK_eq : ∀ (a l : List (Nat × Row)) (k : List (Nat × Row) → Option R), appK a l k = k (a ++ l)
  | [], l, k => rfl
  | x :: xs, l, k => by simp only [appK, appK_eq xs]; rfl
/-- What is left of a call's memory: what its result, and the rows that it was handed, reach; the others' rows behind it. -/
def gcK (acc rest : List (Nat × Row)) (k : AV → AS → Option R) (v : AV) (st : AS) : Option R :=
  match namesN 6 v (rowNames acc) with
  | [] => k v ⟨st.next, rest⟩
  | n :: ns => partT st.mem (n :: ns) fun kept _ => appK kept rest fun m => k v ⟨st.next, m⟩
end
theorem find_append (a b : List (Nat × Row)) (n : Nat) : find (a ++ b) n = match find a n with | some x => some x | none => find b n := by
  induction a with
  | nil => rfl
  | cons p a ih =>
    obtain ⟨i, x⟩ := p
    simp only [List.cons_append, find]
    cases Nat.beq i n with
    | true => rfl
    | false => simpa using ih
theorem gcK_some {R : Type} {acc rest : List (Nat × Row)} {k : AV → AS → Option R} {v : AV} {st : AS} {r : R} (h : gcK acc rest k v st = some r) :
    ∃ kept m, k v ⟨st.next, m⟩ = some r ∧ (∀ n x, find kept n = some x → find st.mem n = some x) ∧ ∀ n, find m n = match find kept n with | some x => some x | none => find rest n := by
  unfold gcK at h
  split at h
  · exact ⟨[], rest, h, fun n x e => by simp [find] at e, fun n => rfl⟩
  · obtain ⟨kept, rest', h1, h2, _⟩ := partT_some h
    rw [appK_eq] at h1
    exact ⟨kept, _, h1, h2, fun n => find_append _ _ _⟩

/-- Does a piece of code make nothing new, and call nothing? -/
def leafOp : Op → Bool
  | .move _ | .assign _ | .pick _ _ _ | .binOp _ _ _ _ _ | .load _ _ | .fieldAddr _ _ _ | .extract _ _ | .indexAddr _ _ _ | .store _ _ _ | .index _ _ _ | .field _ _ _ | .nilCheck _ | .convert _ _ _ | .unOp _ _ _ | .lookup _ _ _ _ => true
  | _ => false
def leafB : Code → Bool
  | .region _ ops _ => ops.toList.all fun o => leafOp o.op
  | .seq a b => leafB a && leafB b
  | .cond _ a b => leafB a && leafB b
  | .block _ b => leafB b
  | .loop b => leafB b
  | .scope b => leafB b
  | _ => true
end
end Go.Sv
namespace Go.Sv
noncomputable section
open Go.RowKit
variable {P : Program}

inductive EK where
  | normal
  | exit (id : Nat)
  | ret
def EK.toExit : EK → Exit
  | .normal => .normal
  | .exit id => .exit id
  | .ret => .ret

/-! ### results -/
section
variable {R : Type} (P)
def resK (E : Env) (st : AS) : List ResultVar → (List AV → Option R) → Option R
  | [], k => k []
  | .tmp t :: rs, k => resK E st rs fun vs => bif isArr (E.get t) then none else k (E.get t :: vs)
  | .cell a t :: rs, k => resK E st rs fun vs => placeK st.mem (E.get a) fun c _ => readT P t c fun v => bif isArr v then none else k (v :: vs)
end
def oneOf : List AV → AV
  | [v] => v
  | vs => .tup vs
/-- What is known of calls. -/
abbrev KT := (R : Type) → FuncId → List AV → AS → Option ((Ent → Option R) → Option R)
/-- What is known of pieces of code: by function and block. -/
abbrev LT := (R : Type) → FuncId → Nat → Env → AS → Option ((EK → Env → AS → Option R) → Option R)
abbrev CallD (R : Type) := FuncId → List AV → AS → (Ent → Option R) → Option R
abbrev Reg (R : Type) := CallD R → Array Oper → Env → AS → (Env → AS → Option R) → Option R

def argsE : Env → Nat → List AV → Env
  | E, _, [] => E
  | E, i, v :: vs => argsE (E.set i v) (i + 1) vs
def argsK {R : Type} : Env → Nat → List AV → (Env → Option R) → Option R
  | E, _, [], k => k E
  | E, i, v :: vs, k => E.setK i v fun E => argsK E (i + 1) vs k
theorem argsK_eq {R : Type} : ∀ (vs : List AV) (E : Env) (i : Nat) (k : Env → Option R), argsK E i vs k = k (argsE E i vs)
  | [], E, i, k => by cases E <;> rfl
  | v :: vs, E, i, k => by
    have : argsK E i (v :: vs) k = E.setK i v fun E => argsK E (i + 1) vs k := by cases E <;> rfl
    rw [this, Env.setK_eq, argsK_eq vs]
    cases E <;> rfl
def enterEnv (fn : Func) (vs : List AV) : Env := argsE (Env.mk (Nat.log2 fn.ntmps + 1)) 0 vs

section
variable {R : Type} (P)
def finE (fn : Func) (k : AV → AS → Option R) (e : EK) (E : Env) (st : AS) : Option R :=
  match e with
  | .exit _ => none
  | _ => resK P E st fn.results.toList fun vs => k (oneOf vs) st
def revRows : List (Nat × Row) → List (Nat × Option Row) → List (Nat × Option Row)
  | [], l => l
  | (n, r) :: m, l => revRows m ((n, some r) :: l)
def delRows : List (Nat × Row) → List (Nat × Option Row) → List (Nat × Option Row)
  | [], l => l
  | (n, _) :: m, l => (n, none) :: delRows m l
theorem rowNames_mem {n : Nat} {r : Row} : ∀ {a : List (Nat × Row)}, (n, r) ∈ a → n ∈ rowNames a
  | [], h => by cases h
  | p :: a, h => by
    rcases List.mem_cons.1 h with e | e
    · subst e; exact List.mem_cons_self ..
    · exact List.mem_cons_of_mem _ (rowNames_mem e)
/-- Behind a call that ran on a part of the memory. -/
def entOf (next : Nat) (acc : List (Nat × Row)) (k : Ent → Option R) (v : AV) (st : AS) : Option R :=
  bif Nat.ble next st.next then k ⟨v, delRows acc (revRows st.mem []), st.next - next, rowNames acc⟩ else none
/-- Has it more than so many rows? -/
def longer : Nat → List (Nat × Row) → Bool
  | 0, _ => true
  | _ + 1, [] => false
  | n + 1, _ :: l => longer n l
/-- What is known of a statement with a block behind it: by the block's number. -/
def headL (L : LT) (R : Type) (g : FuncId) (y : Code) (E : Env) (st : AS) : Option ((EK → Env → AS → Option R) → Option R) :=
  match y with
  | .block id _ => L R g (2 * id + 1) E st
  | _ => none
def evCode (K : KT) (L : LT) (reg : (R : Type) → Reg R) : Nat → FuncId → Code → Env → AS → (EK → Env → AS → Option R) → Option R
  | 0, _, _, _, _, _ => none
  | fuel + 1, g, c, E, st, k =>
    match c with
    | .skip => k .normal E st
    | .label _ => k .normal E st
    | .exit id => k (.exit id) E st
    | .ret => k .ret E st
    | .seq x y =>
      match headL L R g y E st with
      | some F => F k
      | none => evCode K L reg fuel g x E st fun e E st =>
        match e with
        | .normal => evCode K L reg fuel g y E st k
        | .exit i => k (.exit i) E st
        | .ret => k .ret E st
    | .cond c x y =>
      match c with
      | .tmp t =>
        match E.get t with
        | .bool b => bif b then E.setK t (.bool true) fun E => evCode K L reg fuel g x E st k else E.setK t (.bool false) fun E => evCode K L reg fuel g y E st k
        | _ => none
      | .const (.bool b) => bif b then evCode K L reg fuel g x E st k else evCode K L reg fuel g y E st k
      | _ => none
    | .block id body =>
      match L R g (2 * id) E st with
      | some F => F k
      | none => evCode K L reg fuel g body E st fun e E st =>
        match e with
        | .exit i => bif Nat.beq i id then k .normal E st else k (.exit i) E st
        | .normal => k .normal E st
        | .ret => k .ret E st
    | .loop body => evCode K L reg fuel g body E st fun e E st =>
        match e with
        | .normal => evCode K L reg fuel g (.loop body) E st k
        | .exit i => k (.exit i) E st
        | .ret => k .ret E st
    | .scope body => evCode K L reg fuel g body E st k
    | .region _ ops draw =>
      bif draw then
        reg R (fun (h : FuncId) (vs : List AV) (st : AS) (k : Ent → Option R) =>
          match K R h vs st with
          | some F => F k
          | none =>
              match P.funcs[h]? with
              | none => none
              | some fn =>
                match fn.body with
                | none => none
                | some body => partT st.mem (namesL (namesN 6) vs []) fun acc _ => bif bnds (bndN 6 st.next) vs && accOk st.next acc then
                    argsK (Env.mk (Nat.log2 fn.ntmps + 1)) 0 vs fun E => evCode K L reg fuel h body E ⟨st.next, acc⟩ (finE P fn (gcK acc [] (entOf st.next acc k)))
                  else none) ops E st fun E st => k .normal E st
      else
        opsE P (fun (h : FuncId) (vs : List AV) (st : AS) (k : AV → AS → Option R) =>
          match K R h vs st with
          | some F => F fun e => applyK st e fun st' => k e.v st'
          | none =>
            match P.funcs[h]? with
            | none => none
            | some fn =>
              match fn.body with
              | none => none
              | some body => bif leafB body then argsK (Env.mk (Nat.log2 fn.ntmps + 1)) 0 vs fun E => evCode K L reg fuel h body E st (finE P fn k)
                else match namesL (namesN 6) vs [] with
                  | [] => bif bnds (bndN 6 st.next) vs then argsK (Env.mk (Nat.log2 fn.ntmps + 1)) 0 vs fun E => evCode K L reg fuel h body E ⟨st.next, []⟩ (finE P fn (gcK [] st.mem k)) else none
                  | n :: ns => bif longer 80 st.mem then partT st.mem (n :: ns) fun acc rest => bif bnds (bndN 6 st.next) vs && accOk st.next acc then
                      argsK (Env.mk (Nat.log2 fn.ntmps + 1)) 0 vs fun E => evCode K L reg fuel h body E ⟨st.next, acc⟩ (finE P fn (gcK acc rest k)) else none
                    else argsK (Env.mk (Nat.log2 fn.ntmps + 1)) 0 vs fun E => evCode K L reg fuel h body E st (finE P fn k)) ops ops.toList E st fun E st => k .normal E st
    | _ => none
/-- A function. -/
def evFn (K : KT) (L : LT) (reg : (R : Type) → Reg R) (fuel : Nat) (g : FuncId) (vs : List AV) (st : AS) (k : AV → AS → Option R) : Option R :=
  match P.funcs[g]? with
  | none => none
  | some fn =>
    match fn.body with
    | none => none
    | some body => argsK (Env.mk (Nat.log2 fn.ntmps + 1)) 0 vs fun E => evCode P K L reg fuel g body E st (finE P fn k)
end

/-! ### they are sound -/
def resRun (tmps : Array Value) (x : ResultVar) : Sem Value := match x with | .tmp t => pure (tmps.getD t undef) | .cell b t => do loadVar t (← asAddr (tmps.getD b undef))
theorem resK_ok {R : Type} {E : Env} {st : AS} {r : R} : ∀ (rs : List ResultVar) (k : List AV → Option R), resK P E st rs k = some r → ∃ vs, k vs = some r ∧ vs.all (fun x => !isArr x) = true ∧ ∀ (κ : Kap) (sz : Nat) (a : Act) (w : World), SRel κ sz E a → Rel κ st w →
      ∃ us, CRel κ vs us ∧ (rs.mapM (resRun a.tmps)).run P w = .ok us w
  | [], k, h => ⟨[], h, rfl, fun κ sz a w _ _ => ⟨[], .nil, rfl⟩⟩
  | .tmp t :: rs, k, h => by
    simp only [resK] at h
    obtain ⟨vs, h1, h2, h3⟩ := resK_ok rs _ h
    obtain ⟨ha, h4⟩ := cond_some' h1
    refine ⟨_, h4, by simp [ha]; simpa using h2, fun κ sz a w hA hR => ?_⟩
    obtain ⟨us, hu, hrun⟩ := h3 κ sz a w hA hR
    refine ⟨a.tmps.getD t undef :: us, (hA.rel.get t).append hu, ?_⟩
    rw [List.mapM_cons]
    refine (run_bind_ok (e := resRun a.tmps (.tmp t)) (a := a.tmps.getD t undef) (w' := w) rfl).trans ?_
    exact (run_bind_ok hrun).trans rfl
  | .cell b t :: rs, k, h => by
    simp only [resK] at h
    obtain ⟨vs, h1, h2, h3⟩ := resK_ok rs _ h
    obtain ⟨c, rd, h4, h5⟩ := placeK_ok h1
    obtain ⟨hne, v, h6, h7, _⟩ := readT_ok h4
    obtain ⟨ha, h8⟩ := cond_some' h6
    refine ⟨_, h8, by simp [ha]; simpa using h2, fun κ sz a w hA hR => ?_⟩
    obtain ⟨us, hu, hrun⟩ := h3 κ sz a w hA hR
    obtain ⟨ad, had, hpl⟩ := h5 κ w (find st.mem) _ hR.mem (fun _ _ => rfl) (hA.rel.get b) hne
    obtain ⟨u, hv, hr⟩ := h7 κ w ad hpl
    refine ⟨u :: us, CRel.append hv hu, ?_⟩
    rw [List.mapM_cons]
    refine (run_bind_ok (e := resRun a.tmps (.cell b t)) (a := u) (w' := w) ?_).trans ?_
    · unfold resRun
      dsimp only
      rw [had]
      exact (run_bind_ok (e := asAddr (.pointer (some ad))) (a := ad) (w' := w) rfl).trans hr
    · exact (run_bind_ok hrun).trans rfl
theorem one_list {κ : Kap} {vs : List AV} {us : List Value} (h : CRel κ vs us) (ha : vs.all (fun x => !isArr x) = true) : VRel κ (oneOf vs) (if h : us.toArray.size = 1 then us.toArray[0] else .tuple us.toArray) := by
  have hl := h.map_len ha
  match vs, us, h, hl with
  | [], [], h, _ => exact .tup _ _ h .nil
  | [v], [u], h, _ => exact h
  | v :: v2 :: vs, u :: u2 :: us, h, _ => exact .tup _ _ h .nil
theorem results_ok {R : Type} {fn : Func} {E : Env} {st : AS} {k : List AV → Option R} {r : R} (h : resK P E st fn.results.toList k = some r) : ∃ vs, k vs = some r ∧ ∀ (κ : Kap) (sz : Nat) (a : Act) (w : World), SRel κ sz E a → Rel κ st w → ∃ u, VRel κ (oneOf vs) u ∧ (results fn a.tmps).run P w = .ok u w := by
  obtain ⟨vs, h1, h2, h3⟩ := resK_ok _ _ h
  refine ⟨vs, h1, fun κ sz a w hA hR => ?_⟩
  obtain ⟨us, hu, hrun⟩ := h3 κ sz a w hA hR
  refine ⟨_, one_list hu h2, ?_⟩
  unfold results
  rw [Array.mapM_eq_mapM_toList]
  refine (run_bind_ok (a := us.toArray) (w' := w) ?_).trans rfl
  exact (run_bind_ok hrun).trans rfl

/-! ### code -/
def codeOk (sz : Nat) : Code → Bool
  | .region _ ops _ => dstsOk sz ops.toList
  | .seq a b => codeOk sz a && codeOk sz b
  | .cond _ a b => codeOk sz a && codeOk sz b
  | .block _ b => codeOk sz b
  | .loop b => codeOk sz b
  | .scope b => codeOk sz b
  | _ => true
/-- The blocks of a piece of code. -/
def blocks : Code → List (Nat × Code)
  | .seq a b => blocks a ++ blocks b
  | .cond _ a b => blocks a ++ blocks b
  | .block id b => (id, b) :: blocks b
  | .loop b => blocks b
  | .scope b => blocks b
  | _ => []
/-- Statements with a block behind them. -/
def seqs : Code → List (Nat × Code × Code)
  | .seq a b => (match b with | .block id body => [(id, a, body)] | _ => []) ++ (seqs a ++ seqs b)
  | .cond _ a b => seqs a ++ seqs b
  | .block _ b => seqs b
  | .loop b => seqs b
  | .scope b => seqs b
  | _ => []
def regions : Code → List (Nat × Array Oper)
  | .region id ops draw => bif draw then [(id, ops)] else []
  | .seq a b => regions a ++ regions b
  | .cond _ a b => regions a ++ regions b
  | .block _ b => regions b
  | .loop b => regions b
  | .scope b => regions b
  | _ => []

def Post (κ : Kap) (nb sz : Nat) (st : AS) (w : World) (e : EK) (E' : Env) (st' : AS) : Exit → Act → World → Prop := fun ex a' w' =>
  ex = e.toExit ∧ ∃ κ', Kap.leN nb κ κ' ∧ SRel κ' sz E' a' ∧ Rel κ' st' w' ∧ Fr κ (find st.mem) w κ' (find st'.mem) w'
theorem Post.mono {κ κ1 : Kap} {nb sz : Nat} {st st1 st' : AS} {w w1 : World} {e : EK} {E' : Env} (hle : Kap.leN nb κ κ1) (hf : Fr κ (find st.mem) w κ1 (find st1.mem) w1) {ex : Exit} {a' : Act} {w' : World} (h : Post κ1 nb sz st1 w1 e E' st' ex a' w') : Post κ nb sz st w e E' st' ex a' w' := by
  obtain ⟨h1, κ', h2, h3, h4, h5⟩ := h
  exact ⟨h1, κ', Kap.leN_trans (Nat.le_refl _) hle h2, h3, h4, hf.trans h5⟩
def CodeOk (P : Program) (nb sz : Nat) (c : Code) (E : Env) (st : AS) (e : EK) (E' : Env) (st' : AS) : Prop :=
  ∀ (κ : Kap) (a : Act) (w : World), SRel κ sz E a → Rel κ st w → c.wp P (Post κ nb sz st w e E' st') a w
def LoopOk (P : Program) (nb sz : Nat) (body : Code) (E : Env) (st : AS) (e : EK) (E' : Env) (st' : AS) : Prop :=
  ∃ n, ∀ (κ : Kap) (a : Act) (w : World), SRel κ sz E a → Rel κ st w → Code.rounds P body (Post κ nb sz st w e E' st') n a w
theorem rounds_mono {c : Code} {Q Q' : Exit → Act → World → Prop} (hq : ∀ e a w, Q e a w → Q' e a w) : ∀ (n : Nat) (a : Act) (w : World), Code.rounds P c Q n a w → Code.rounds P c Q' n a w
  | 0, _, _, h => h
  | n + 1, a, w, h => by
    rw [rounds_succ] at h ⊢
    refine wp_mono h fun e a w h => ?_
    cases e with
    | normal => exact rounds_mono hq n a w h
    | _ => exact hq _ _ _ h

/-- What is asked of the table of calls, of the table of pieces of code, of the way of statements that draw their order. -/
def KOk (P : Program) (K : KT) : Prop := ∀ (R : Type) g vs st F, K R g vs st = some F → ∀ (k : Ent → Option R) r, F k = some r → ∃ e, k e = some r ∧ CallEnt P g vs st.next (find st.mem) e
def bodyOf (P : Program) (g : FuncId) : Code :=
  match P.funcs[g]? with
  | some fn => fn.body.getD .skip
  | none => .skip
def szOf (P : Program) (g : FuncId) : Nat :=
  match P.funcs[g]? with
  | some fn => fn.ntmps
  | none => 0
structure LOk (P : Program) (L : LT) : Prop where
  block : ∀ (R : Type) g id E st F, L R g (2 * id) E st = some F → ∀ body, (id, body) ∈ blocks (bodyOf P g) → ∀ nb, nb ≤ st.next → ∀ (k : EK → Env → AS → Option R) r, F k = some r →
    ∃ e E' st', k e E' st' = some r ∧ st.next ≤ st'.next ∧ CodeOk P nb (szOf P g) (.block id body) E st e E' st'
  seq : ∀ (R : Type) g id E st F, L R g (2 * id + 1) E st = some F → ∀ x body, (id, x, body) ∈ seqs (bodyOf P g) → ∀ nb, nb ≤ st.next → ∀ (k : EK → Env → AS → Option R) r, F k = some r →
    ∃ e E' st', k e E' st' = some r ∧ st.next ≤ st'.next ∧ CodeOk P nb (szOf P g) (.seq x (.block id body)) E st e E' st'
def CallDOk (P : Program) {R : Type} (call : CallD R) : Prop :=
  ∀ g vs st (k : Ent → Option R) r, vs.all (fun x => !isArr x) = true → call g vs st k = some r → ∃ e, k e = some r ∧ CallEnt P g vs st.next (find st.mem) e
def RegOk (P : Program) (reg : (R : Type) → Reg R) : Prop :=
  ∀ (R : Type) (call : CallD R), CallDOk P call → ∀ (g : FuncId) (id : Nat) (ops : Array Oper), (id, ops) ∈ regions (bodyOf P g) → ∀ (E : Env) (st : AS) (k : Env → AS → Option R) (r : R), reg R call ops E st k = some r →
    ∃ E' st', k E' st' = some r ∧ st.next ≤ st'.next ∧ CodeOk P st.next (szOf P g) (.region id ops true) E st .normal E' st'
structure ProgOk (P : Program) : Prop where
  zeros : ZerosOk P
  flat : FlatOk P
  names : NamesOk P
  codes : ∀ (g : Nat) (fn : Func) (body : Code), P.funcs[g]? = some fn → fn.body = some body → codeOk fn.ntmps body = true
  orders : P.follows .mixedOrders = true

theorem argsE_get : ∀ (vs : List AV) (E : Env) (i t : Nat), (argsE E i vs).get t = .any ∨ (∃ j v, t = i + j ∧ vs[j]? = some v ∧ (argsE E i vs).get t = v) ∨ ((∀ j v, t = i + j → vs[j]? ≠ some v) ∧ (argsE E i vs).get t = E.get t)
  | [], E, i, t => .inr (.inr ⟨fun j v _ => by simp, by cases E <;> rfl⟩)
  | v :: vs, E, i, t => by
    have e : argsE E i (v :: vs) = argsE (E.set i v) (i + 1) vs := by cases E <;> rfl
    rw [e]
    rcases argsE_get vs (E.set i v) (i + 1) t with h | ⟨j, u, h1, h2, h3⟩ | ⟨h1, h2⟩
    · exact .inl h
    · exact .inr (.inl ⟨j + 1, u, by omega, by simpa using h2, h3⟩)
    · by_cases ht : t = i
      · subst ht
        rcases E.get_set_same t v with h | h
        · exact .inr (.inl ⟨0, v, rfl, rfl, by rw [h2, h]⟩)
        · exact .inl (by rw [h2, h])
      · rw [Env.get_set_ne ht] at h2
        refine .inr (.inr ⟨fun j u hj hu => ?_, h2⟩)
        cases j with
        | zero => exact ht (by omega)
        | succ j => exact h1 j u (by omega) (by simpa using hu)
theorem CRel.getI {κ : Kap} : ∀ {c : List AV} {zs : List Value} {i : Nat} {v : AV}, CRel κ c zs → c.all (fun x => !isArr x) = true → c[i]? = some v → ∃ u, zs[i]? = some u ∧ VRel κ v u
  | [], zs, i, v, _, _, h => by simp at h
  | x :: xs, zs, i, v, r, ha, h => by
    simp only [List.all_cons, Bool.and_eq_true, Bool.not_eq_true'] at ha
    obtain ⟨y, ys, rfl, h1, h2⟩ := r.head ha.1
    cases i with
    | zero => simp only [List.getElem?_cons_zero, Option.some.injEq] at h; subst h; exact ⟨y, rfl, h1⟩
    | succ i =>
      simp only [List.getElem?_cons_succ] at h
      obtain ⟨u, h3, h4⟩ := CRel.getI h2 ha.2 h
      exact ⟨u, by simpa using h3, h4⟩
/-- The same, but for the ghosts' first one. -/
structure Kap.Like (κ κ' : Kap) : Prop where
  loc : κ'.loc = κ.loc
  st : κ'.st = κ.st
  gh : ∀ g, κ'.gh (g + 1) = κ.gh (g + 1)
  sz : κ'.sz = κ.sz
theorem Kap.Like.nl {κ κ' : Kap} (h : κ.Like κ') : κ.nl.Like κ'.nl := ⟨rfl, h.st, h.gh, h.sz⟩
theorem CRel.like {κ κ' : Kap} (h : κ.Like κ') {xs : List AV} {ys : List Value} (r : CRel κ xs ys) : CRel κ' xs ys := by
  induction r generalizing κ' with
  | nil => exact .nil
  | any y _ ih => exact .any y (ih h)
  | bool b _ ih => exact .bool b (ih h)
  | int k n _ ih => exact .int k n (ih h)
  | str s _ ih => exact .str s (ih h)
  | raw v _ ih => exact .raw v (ih h)
  | ptr n p o b ps h1 h2 _ ih => exact .ptr n p o b ps (by rw [h.loc]; exact h1) h2 (ih h)
  | sptr c cs zs b off p o h1 h2 _ h4 _ ih1 ih2 => exact .sptr c cs zs b off p o (by rw [h.st]; exact h1) h2 (ih1 h.nl) h4 (ih2 h)
  | slc n ps o i w len cap b cap' a h1 h2 h3 h4 _ ih => exact .slc n ps o i w len cap b cap' a (by rw [h.loc]; exact h1) (by rw [h.sz]; exact h2) h3 h4 (ih h)
  | slc0 n o i w ps h1 _ ih => exact .slc0 n o i w ps (by rw [h.loc]; exact h1) (ih h)
  | lst w len b off cap f us' cs h1 h2 h3 ho h4 _ _ ih1 ih2 => exact .lst w len b off cap f us' cs (by rw [h.st]; exact h1) h2 h3 ho h4 (fun i hi => ih1 i hi h.nl) (ih2 h)
  | lst0 w cap f us' a _ ih => exact .lst0 w cap f us' a (ih h)
  | agg c zs _ _ ih1 ih2 => exact .agg c zs (ih1 h) (ih2 h)
  | tup c zs _ _ ih1 ih2 => exact .tup c zs (ih1 h) (ih2 h)
  | ifc t x y _ _ ih1 ih2 => exact .ifc t x y (ih1 h) (ih2 h)
  | fn f a b as bs _ _ _ ih1 ih2 ih3 => exact .fn f a b as bs (ih1 h) (ih2 h) (ih3 h)
  | mp n b h1 _ ih => exact .mp n b (by rw [h.loc]; exact h1) (ih h)
  | arr w n f us' zs h1 ho h2 _ h4 _ ih1 ih2 => exact .arr w n f us' zs h1 ho h2 (fun i hi => ih1 i hi h.nl) h4 (ih2 h)
  | gh g y h1 _ ih => exact .gh g y (by rw [h1, h.gh]) (ih h)
theorem RowRel.like {κ κ' : Kap} (h : κ.Like κ') {w : World} {n : Nat} {r : Row} (hr : RowRel κ w n r) : RowRel κ' w n r := by
  cases r with
  | cells c own tip =>
    rcases hr with ⟨h1, h2⟩ | ⟨b, zs, rest, e, fr, h1, h2, h3, h4, h5, h6, h7⟩
    · exact .inl ⟨by rw [h.loc]; exact h1, h2.like h⟩
    · exact .inr ⟨b, zs, rest, e, fr, by rw [h.loc]; exact h1, h2, h3.like h, h4, by rw [h.st]; exact h5, by rw [h.st]; exact h6, by rw [h.sz]; exact h7⟩
  | map kk l clock =>
    obtain ⟨b, es, h1, h2, h3⟩ := hr
    refine ⟨b, es, by rw [h.loc]; exact h1, h2, ⟨?_, h3.stamped⟩⟩
    have : ∀ {l : List (Key × Nat × AV)} {es : List MapEntry}, Ents κ kk l es → Ents κ' kk l es := by
      intro l
      induction l with
      | nil => intro es h; cases es <;> exact h
      | cons p l ih => intro es hh; cases es with
        | nil => exact hh
        | cons e es => exact ⟨⟨hh.1.1, hh.1.2.like h.nl⟩, ih hh.2⟩
    exact this h3.ent
  | ptab xs =>
    obtain ⟨l, clock, b, es, h0, h1, h2, h3⟩ := hr
    refine ⟨l, clock, b, es, h0, by rw [h.loc]; exact h1, h2, ⟨?_, h3.stamped⟩⟩
    have : ∀ {l : List (Key × Nat × AV)} {es : List MapEntry}, Ents κ (some .i64) l es → Ents κ' (some .i64) l es := by
      intro l
      induction l with
      | nil => intro es h; cases es <;> exact h
      | cons p l ih => intro es hh; cases es with
        | nil => exact hh
        | cons e es => exact ⟨⟨hh.1.1, hh.1.2.like h.nl⟩, ih hh.2⟩
    exact this h3.ent
theorem MRel.like {κ κ' : Kap} (h : κ.Like κ') {M : Mem} {w : World} (r : MRel κ M w) : MRel κ' M w :=
  ⟨by rw [h.sz]; exact r.szlt, by rw [h.st]; exact r.stable, fun n x hx => (r.row n x hx).like h, by rw [h.loc]; exact r.inj⟩
theorem Rel.like {κ κ' : Kap} (h : κ.Like κ') {st : AS} {w : World} (r : Rel κ st w) : Rel κ' st w := ⟨by rw [h.loc]; exact r.fresh, r.mem.like h⟩
theorem owned_like {κ κ' : Kap} (h : κ.Like κ') {M : Mem} {b : Nat} : owned κ' M b ↔ owned κ M b := by unfold owned; rw [h.loc]
theorem Fr.like {κ κ0 κ' κ1 : Kap} (h : κ0.Like κ) (h' : κ'.Like κ1) {M M' : Mem} {w w' : World} (f : Fr κ0 M w κ' M' w') : Fr κ M w κ1 M' w' :=
  ⟨fun b cs hs => by
      rw [h'.st] at hs
      rw [h.st, owned_like h]
      exact f.sts b cs hs,
    f.os, f.tape, f.output, f.size, fun b hb hn => f.keep b hb (by rw [owned_like h] at hn; exact hn), fun b hb ho => by rw [owned_like h]; rw [owned_like h'] at ho; exact f.owns b hb ho⟩
/-- With another first ghost. -/
def Kap.gh0 (κ : Kap) (v : Value) : Kap := ⟨κ.loc, κ.st, fun g => match g with | 0 => v | g + 1 => κ.gh (g + 1), κ.sz⟩
theorem Kap.gh0_like (κ : Kap) (v : Value) : κ.Like (κ.gh0 v) := ⟨rfl, rfl, fun _ => rfl, rfl⟩
/-- Another one's ghosts. -/
def Kap.ghOf (κ κ0 : Kap) : Kap := ⟨κ.loc, κ.st, κ0.gh, κ.sz⟩
theorem Kap.Like.symm {κ κ' : Kap} (h : κ.Like κ') : κ'.Like κ := ⟨h.loc.symm, h.st.symm, fun g => (h.gh g).symm, h.sz.symm⟩
theorem enter_rel {κ : Kap} (hd : κ.df = []) {fn : Func} {vs : List AV} {us : List Value} (h : CRel κ vs us) (ha : vs.all (fun x => !isArr x) = true) : SRel κ fn.ntmps (enterEnv fn vs) { tmps := us.toArray ++ Array.replicate (fn.ntmps - us.toArray.size) undef, defers := [] } := by
  refine ⟨⟨fun t => ?_, hd.symm⟩, by simp; omega⟩
  unfold enterEnv
  rcases argsE_get vs (Env.mk (Nat.log2 fn.ntmps + 1)) 0 t with h' | ⟨j, v, h1, h2, h3⟩ | ⟨_, h2⟩
  · rw [h']; exact vrel_any κ _
  · rw [Nat.zero_add] at h1
    subst h1
    rw [h3]
    obtain ⟨u, hu, hv⟩ := h.getI ha h2
    have : (us.toArray ++ Array.replicate (fn.ntmps - us.toArray.size) undef).getD t undef = u := by
      rw [Array.getD_eq_getD_getElem?]
      have hlt := (List.getElem?_eq_some_iff.1 hu).1
      rw [Array.getElem?_append, if_pos (by simpa using hlt)]
      simp [hu]
    rw [this]; exact hv
  · rw [h2, Env.get_mk]; exact vrel_any κ _

/-- A function's body is sound: so is the function. -/
theorem fn_ok {R : Type} {g : FuncId} {fn : Func} {body : Code} (hg : P.funcs[g]? = some fn) (hb : fn.body = some body) {vs : List AV} (ha : vs.all (fun x => !isArr x) = true) {st : AS} {k : AV → AS → Option R} {r : R} {e : EK} {E' : Env} {st' : AS}
    (hc : CodeOk P st.next fn.ntmps body (enterEnv fn vs) st e E' st') (h : finE P fn k e E' st' = some r) : ∃ v, k v st' = some r ∧ SoundFn P g vs st v st' := by
  have key : resK P E' st' fn.results.toList (fun vs => k (oneOf vs) st') = some r → (e = .normal ∨ e = .ret) → ∃ v, k v st' = some r ∧ SoundFn P g vs st v st' := by
    intro h he
    obtain ⟨ws, hk, hres⟩ := results_ok h
    refine ⟨_, hk, fun κ us w hl hR => ?_⟩
    refine calls_of_wp hg hb ?_
    have hlk := κ.gh0_like undef
    have hdf : (κ.gh0 undef).df = [] := rfl
    refine wp_mono (hc (κ.gh0 undef) _ w (enter_rel hdf (hl.like hlk) ha) (hR.like hlk)) fun ex a' w' hq => ?_
    obtain ⟨rfl, κ', hle, hA', hR', hf⟩ := hq
    obtain ⟨u, hu, hrun⟩ := hres κ' _ a' w' hA' hR'
    have hd' : a'.defers = [] := hA'.rel.defers.trans ((Kap.df_gh hle.gh).trans hdf)
    have hlk' : κ'.Like (κ'.ghOf κ) := ⟨rfl, rfl, fun g => by rw [hle.gh]; rfl, rfl⟩
    have hle' : Kap.leN st.next κ (κ'.ghOf κ) := ⟨hle.loc, hle.st, rfl, hle.sz⟩
    rcases he with rfl | rfl
    · exact ⟨hd', u, hrun, κ'.ghOf κ, u, hle', rfl, hu.like hlk', hR'.like hlk', hf.like hlk.symm hlk'⟩
    · exact ⟨hd', u, hrun, κ'.ghOf κ, u, hle', rfl, hu.like hlk', hR'.like hlk', hf.like hlk.symm hlk'⟩
  unfold finE at h
  cases e with
  | exit i => cases h
  | normal => exact key h (.inl rfl)
  | ret => exact key h (.inr rfl)
end
end Go.Sv
namespace Go.Sv
noncomputable section
open Go.RowKit
variable {P : Program}

theorem sets_rev : ∀ (m : List (Nat × Row)) (l : List (Nat × Option Row)) (M : Mem), M.sets (revRows m l) = Mem.sets (fun n => match find m n with | some r => some r | none => M n) l
  | [], l, M => rfl
  | (i, r) :: m, l, M => by
    simp only [revRows]
    rw [sets_rev m _ M]
    show (Mem.set _ i (some r)).sets l = _
    congr 1
    funext n
    simp only [find]
    by_cases e : n = i
    · subst e; rw [Mem.set_same]; simp
    · rw [Mem.set_ne _ _ e, beq_false (Ne.symm e), cond_false]
/-- Names below a bound alone. -/
def Kap.upto (κ : Kap) (n : Nat) : Kap := ⟨fun m => if m < n then κ.loc m else none, κ.st, κ.gh, κ.sz⟩
theorem Kap.upto_lt (κ : Kap) {n m : Nat} (h : m < n) : (κ.upto n).loc m = κ.loc m := if_pos h
theorem Kap.upto_ge (κ : Kap) {n m : Nat} (h : n ≤ m) : (κ.upto n).loc m = none := if_neg (by omega)
theorem bnd_ok {n : Nat} {κ : Kap} {xs : List AV} {ys : List Value} (r : CRel κ xs ys) : ∀ d, bnds (bndN d n) xs = true → CRel (κ.upto n) xs ys := by
  have hd : ∀ {d : Nat} {x : AV} {xs : List AV}, bnds (bndN d n) (x :: xs) = true → ∃ e, d = e + 1 ∧ bndN (e + 1) n x = true ∧ bnds (bndN d n) xs = true := by
    intro d x xs h
    simp only [bnds, Bool.and_eq_true] at h
    cases d with
    | zero => simp [bndN] at h
    | succ e => exact ⟨e, rfl, h.1, h.2⟩
  induction r with
  | nil => intro d h; exact .nil
  | any y _ ih => intro d h; obtain ⟨e, rfl, _, h2⟩ := hd h; exact .any y (ih _ h2)
  | bool b _ ih => intro d h; obtain ⟨e, rfl, _, h2⟩ := hd h; exact .bool b (ih _ h2)
  | int k m _ ih => intro d h; obtain ⟨e, rfl, _, h2⟩ := hd h; exact .int k m (ih _ h2)
  | str s _ ih => intro d h; obtain ⟨e, rfl, _, h2⟩ := hd h; exact .str s (ih _ h2)
  | raw v _ ih => intro d h; obtain ⟨e, rfl, _, h2⟩ := hd h; exact .raw v (ih _ h2)
  | ptr m p o b ps h1 h3 _ ih =>
    intro d h; obtain ⟨e, rfl, hx, h2⟩ := hd h
    simp only [bndN, Nat.blt_eq] at hx
    exact .ptr m p o b ps (by rw [Kap.upto_lt _ hx]; exact h1) h3 (ih _ h2)
  | sptr c cs zs b off p o h1 h3 h4 h5 _ _ ih2 => intro d h; obtain ⟨e, rfl, _, h2⟩ := hd h; exact .sptr c cs zs b off p o h1 h3 h4 h5 (ih2 _ h2)
  | slc m ps o i w len cap b cap' a h1 h3 h4 h5 _ ih =>
    intro d h; obtain ⟨e, rfl, hx, h2⟩ := hd h
    simp only [bndN, Nat.blt_eq] at hx
    exact .slc m ps o i w len cap b cap' a (by rw [Kap.upto_lt _ hx]; exact h1) h3 h4 h5 (ih _ h2)
  | slc0 m o i w ps h1 _ ih =>
    intro d h; obtain ⟨e, rfl, hx, h2⟩ := hd h
    simp only [bndN, Nat.blt_eq] at hx
    exact .slc0 m o i w ps (by rw [Kap.upto_lt _ hx]; exact h1) (ih _ h2)
  | lst w len b off cap f us' cs h1 h3 h4 ho h5 h6 _ _ ih2 => intro d h; obtain ⟨e, rfl, _, h2⟩ := hd h; exact .lst w len b off cap f us' cs h1 h3 h4 ho h5 h6 (ih2 _ h2)
  | lst0 w cap f us' a _ ih => intro d h; obtain ⟨e, rfl, _, h2⟩ := hd h; exact .lst0 w cap f us' a (ih _ h2)
  | agg c zs _ _ ih1 ih2 =>
    intro d h; obtain ⟨e, rfl, hx, h2⟩ := hd h
    exact .agg c zs (ih1 e hx) (ih2 _ h2)
  | tup c zs _ _ ih1 ih2 =>
    intro d h; obtain ⟨e, rfl, hx, h2⟩ := hd h
    exact .tup c zs (ih1 e hx) (ih2 _ h2)
  | ifc t x y _ _ ih1 ih2 =>
    intro d h; obtain ⟨e, rfl, hx, h2⟩ := hd h
    simp only [bndN] at hx
    exact .ifc t x y (ih1 e (by simp only [bnds, hx, Bool.true_and])) (ih2 _ h2)
  | fn f a b as bs _ _ _ ih1 ih2 ih3 =>
    intro d h; obtain ⟨e, rfl, hx, h2⟩ := hd h
    simp only [bndN, Bool.and_eq_true] at hx
    exact .fn f a b as bs (ih1 e hx.1) (ih2 e hx.2) (ih3 _ h2)
  | mp m b h1 _ ih =>
    intro d h; obtain ⟨e, rfl, hx, h2⟩ := hd h
    simp only [bndN, Nat.blt_eq] at hx
    exact .mp m b (by rw [Kap.upto_lt _ hx]; exact h1) (ih _ h2)
  | arr w m f us' zs h1 ho h3 h4 h5 _ _ ih2 => intro d h; obtain ⟨e, rfl, _, h2⟩ := hd h; exact .arr w m f us' zs h1 ho h3 h4 h5 (ih2 _ h2)
  | gh g y h1 _ ih => intro d h; obtain ⟨e, rfl, _, h2⟩ := hd h; exact .gh g y h1 (ih _ h2)

theorem dels_sets : ∀ (a : List (Nat × Row)) (l : List (Nat × Option Row)) (M : Mem), M.sets (delRows a l) = Mem.sets (fun n => match find a n with | some _ => none | none => M n) l
  | [], l, M => rfl
  | (i, r) :: a, l, M => by
    show (Mem.set M i none).sets (delRows a l) = _
    rw [dels_sets a]
    congr 1
    funext n
    simp only [find]
    by_cases e : n = i
    · subst e; rw [Mem.set_same]; simp
      cases find a n <;> rfl
    · rw [Mem.set_ne _ _ e, beq_false (Ne.symm e), cond_false]
theorem find_mem : ∀ (a : List (Nat × Row)) (n : Nat) (r : Row), find a n = some r → (n, r) ∈ a
  | [], n, r, h => by simp [find] at h
  | (i, x) :: a, n, r, h => by
    simp only [find] at h
    cases hb : Nat.beq i n with
    | true =>
      rw [hb, cond_true] at h
      have := Nat.eq_of_beq_eq_true hb
      simp only [Option.some.injEq] at h
      subst this; subst h; exact List.mem_cons_self ..
    | false => rw [hb, cond_false] at h; exact List.mem_cons_of_mem _ (find_mem a n r h)
theorem accOk_spec {next : Nat} : ∀ {a : List (Nat × Row)}, accOk next a = true → ∀ n r, (n, r) ∈ a → n < next ∧ rowBnd next r = true
  | [], _, n, r, h => by cases h
  | (i, x) :: a, h, n, r, hm => by
    simp only [accOk, Bool.and_eq_true, Nat.blt_eq] at h
    rcases List.mem_cons.1 hm with e | e
    · simp only [Prod.mk.injEq] at e
      obtain ⟨rfl, rfl⟩ := e
      exact h.1
    · exact accOk_spec h.2 n r e
theorem RowRel.upto {κ : Kap} {w : World} {n next : Nat} {r : Row} (h : RowRel κ w n r) (hn : n < next) (hb : rowBnd next r = true) : RowRel (κ.upto next) w n r := by
  cases r with
  | cells c own tip =>
    simp only [rowBnd] at hb
    rcases h with ⟨h1, h2⟩ | ⟨b, zs, rest, e, fr, h1, h2, h3, h4⟩
    · exact .inl ⟨by rw [Kap.upto_lt _ hn]; exact h1, bnd_ok h2 _ hb⟩
    · exact .inr ⟨b, zs, rest, e, fr, by rw [Kap.upto_lt _ hn]; exact h1, h2, bnd_ok h3 _ hb, h4⟩
  | map kk l clock =>
    obtain ⟨b, es, h1, h2, h3⟩ := h
    exact ⟨b, es, by rw [Kap.upto_lt _ hn]; exact h1, h2, Ents.mono (κ := κ) (κ' := κ.upto next) ⟨fun _ _ h => h, fun _ _ h => h, rfl, fun _ _ h => h⟩ h3.ent, h3.stamped⟩
  | ptab xs =>
    obtain ⟨l, clock, b, es, h0, h1, h2, h3⟩ := h
    exact ⟨l, clock, b, es, h0, by rw [Kap.upto_lt _ hn]; exact h1, h2, Ents.mono (κ := κ) (κ' := κ.upto next) ⟨fun _ _ h => h, fun _ _ h => h, rfl, fun _ _ h => h⟩ h3.ent, h3.stamped⟩

/-- A call on a part of the memory. -/
theorem SoundFn.frame {g : FuncId} {vs : List AV} {next : Nat} {acc : List (Nat × Row)} {v : AV} {st' : AS} (h : SoundFn P g vs ⟨next, acc⟩ v st') (hb : bnds (bndN 6 next) vs = true) (ha : accOk next acc = true) (hn : next ≤ st'.next) (m : Mem)
    (hm : ∀ n r, find acc n = some r → m n = some r) : CallEnt P g vs next m ⟨v, delRows acc (revRows st'.mem []), st'.next - next, rowNames acc⟩ := by
  intro κ us w M hl hR hrd hfr
  have hfr : ∀ n, next ≤ n → n < st'.next → κ.loc n = none := fun n h1 h2 => hfr n h1 (by dsimp only; omega)
  have hsub : ∀ n r, find acc n = some r → M n = some r := fun n r hr => by
    rw [hrd n (rowNames_mem (find_mem _ _ _ hr))]; exact hm n r hr
  have hacc : ∀ n r, find acc n = some r → n < next ∧ rowBnd next r = true := fun n r hr => accOk_spec ha n r (find_mem _ _ _ hr)
  have hR0 : Rel (κ.upto next) ⟨next, acc⟩ w := ⟨fun n hn => Kap.upto_ge _ hn, hR.szlt, hR.stable, fun n r hr => (hR.row n r (hsub n r hr)).upto (hacc n r hr).1 (hacc n r hr).2, fun n n' r r' b h1 h2 h3 h4 ho => by
    rw [Kap.upto_lt _ (hacc n r h1).1] at h3
    rw [Kap.upto_lt _ (hacc n' r' h2).1] at h4
    exact hR.inj n n' r r' b (hsub n r h1) (hsub n' r' h2) h3 h4 ho⟩
  refine (h (κ.upto next) us w (bnd_ok hl _ hb) hR0).mono fun en w' he => ?_
  obtain ⟨κ1, v', hle, rfl, hv, hR', hF⟩ := he
  have hlow : ∀ n, n < next → κ1.loc n = κ.loc n := fun n hn => by rw [hle.loc n hn, Kap.upto_lt _ hn]
  -- a block of a row of the part is that row's alone
  have hown : ∀ b, owned (κ.upto next) (find acc) b → ∃ n r, find acc n = some r ∧ M n = some r ∧ r.own = true ∧ κ.loc n = some (some b) := fun b ho => by
    obtain ⟨n, r, h1, h2, h3⟩ := ho
    rw [Kap.upto_lt _ (hacc n r h1).1] at h3
    exact ⟨n, r, h1, hsub n r h1, h2, h3⟩
  have hother : ∀ n r b, find acc n = none → M n = some r → κ.loc n = some (some b) → ¬ owned (κ.upto next) (find acc) b := fun n r b h1 h2 h3 ho => by
    obtain ⟨n0, r0, g1, g2, g3, g4⟩ := hown b ho
    have := hR.inj n0 n r0 r b g2 h2 g4 h3 g3
    subst this
    rw [g1] at h1; cases h1
  let κ' : Kap := ⟨fun n => if n < next then κ.loc n else if n < st'.next then κ1.loc n else κ.loc n, κ1.st, κ.gh, κ1.sz⟩
  have hκ1 : κ1.le κ' := ⟨(fun n x e => by
    show (if n < next then κ.loc n else if n < st'.next then κ1.loc n else κ.loc n) = some x
    by_cases h1 : n < next
    · rw [if_pos h1, ← hlow n h1]; exact e
    · by_cases h2 : n < st'.next
      · rw [if_neg h1, if_pos h2]; exact e
      · rw [hR'.fresh n (by omega)] at e; cases e), fun _ _ h => h, hle.gh.symm, fun _ _ h => h⟩
  have hout : ∀ n, n < next ∨ st'.next ≤ n → κ'.loc n = κ.loc n := fun n hn => by
    show (if n < next then κ.loc n else if n < st'.next then κ1.loc n else κ.loc n) = κ.loc n
    by_cases h1 : n < next
    · rw [if_pos h1]
    · rw [if_neg h1, if_neg (by omega)]
  have hin : ∀ n, n < st'.next → κ'.loc n = κ1.loc n := fun n hn => by
    show (if n < next then κ.loc n else if n < st'.next then κ1.loc n else κ.loc n) = κ1.loc n
    by_cases h1 : n < next
    · rw [if_pos h1, hlow n h1]
    · rw [if_neg h1, if_pos hn]
  have hκ : κ.le κ' := ⟨(fun n x e => by
    by_cases h1 : n < next ∨ st'.next ≤ n
    · rw [hout n h1]; exact e
    · rw [hfr n (by omega) (by omega)] at e; cases e), fun b cs e => hle.st b cs e, rfl, fun b s e => hle.sz b s e⟩
  have hM : ∀ n, (M.sets (delRows acc (revRows st'.mem []))) n = match find st'.mem n with | some r => some r | none => match find acc n with | some _ => none | none => M n := fun n => by rw [dels_sets, sets_rev]; rfl
  have hsome : ∀ n r, find st'.mem n = some r → ∃ x, κ1.loc n = some x := fun n r hr => by
    have hrow := hR'.mem.row n r hr
    cases r with
    | cells c own tip => rcases hrow with ⟨h1, _⟩ | ⟨b, _, _, _, _, h1, _⟩ <;> exact ⟨_, h1⟩
    | map kk l clock => obtain ⟨b, _, h1, _⟩ := hrow; exact ⟨_, h1⟩
    | ptab xs => obtain ⟨_, _, b, _, _, h1, _⟩ := hrow; exact ⟨_, h1⟩
  have hnewloc : ∀ n r, find st'.mem n = some r → κ'.loc n = κ1.loc n := fun n r hr => by
    obtain ⟨x, hx⟩ := hsome n r hr
    rcases Nat.lt_or_ge n st'.next with h | h
    · exact hin n h
    · rw [hR'.fresh n h] at hx; cases hx
  have holdloc : ∀ n r, M n = some r → κ'.loc n = κ.loc n := fun n r hr => by
    by_cases h1 : n < next ∨ st'.next ≤ n
    · exact hout n h1
    · have hrow := hR.row n r hr
      have := hfr n (by omega) (by omega)
      cases r with
      | cells c own tip => rcases hrow with ⟨h1, _⟩ | ⟨b, _, _, _, _, h1, _⟩ <;> (rw [this] at h1; cases h1)
      | map kk l clock => obtain ⟨b, _, h1, _⟩ := hrow; rw [this] at h1; cases h1
      | ptab xs => obtain ⟨_, _, b, _, _, h1, _⟩ := hrow; rw [this] at h1; cases h1
  -- a row of the memory: of the call, or untouched
  have hsplit : ∀ n r, (M.sets (delRows acc (revRows st'.mem []))) n = some r → (find st'.mem n = some r) ∨ (find acc n = none ∧ M n = some r) := fun n r hr => by
    rw [hM] at hr
    cases hf : find st'.mem n with
    | some r2 => rw [hf] at hr; exact .inl hr
    | none =>
      rw [hf] at hr
      cases hg : find acc n with
      | some _ => rw [hg] at hr; cases hr
      | none => rw [hg] at hr; exact .inr ⟨rfl, hr⟩
  have hblk : ∀ n r b, find st'.mem n = some r → r.own = true → κ1.loc n = some (some b) → w.heap.size ≤ b ∨ owned (κ.upto next) (find acc) b := fun n r b hr ho hb => by
    rcases Nat.lt_or_ge b w.heap.size with h | h
    · exact .inr (hF.owns b h ⟨n, r, hr, ho, hb⟩)
    · exact .inl h
  -- no row of the call that is its own lies where an untouched row does
  have hcross : ∀ n n' r r' b, find st'.mem n = some r → find acc n' = none → M n' = some r' → κ1.loc n = some (some b) → κ.loc n' = some (some b) → r.own = true → False := fun n n' r r' b h1 h2 h3 h4 h5 ho => by
    rcases hblk n r b h1 ho h4 with h | h
    · have := (hR.row n' r' h3).lt h5; omega
    · exact hother n' r' b h2 h3 h5 h
  refine ⟨κ', v', hκ, fun n hn => hout n (by dsimp only at hn; omega), rfl, hv.mono hκ1, ⟨hR'.mem.szlt, hR'.mem.stable, fun n r hn => ?_, fun n n' r r' b h1 h2 h3 h4 ho => ?_⟩, ⟨fun b cs e => ?_, hF.os, hF.tape, hF.output, hF.size, fun b hb hno => ?_, fun b hb ho => ?_⟩⟩
  · rcases hsplit n r hn with hf | ⟨hg, hf⟩
    · exact (hR'.mem.row n _ hf).mono hκ1 fun b _ hb => hb
    · have hrow := hR.row n r hf
      refine (hrow.congr (w' := w') fun b hb => hF.keep b (hrow.lt hb) (hother n r b hg hf hb)).mono hκ fun b hb hs => ?_
      show κ1.st b = none
      cases hx : κ1.st b with
      | none => rfl
      | some cs =>
        rcases hF.sts b cs hx with h | h | h
        · have h : κ.st b = some cs := h
          rw [hs] at h; cases h
        · have := hrow.lt hb; omega
        · exact absurd h (hother n r b hg hf hb)
  · rcases hsplit n r h1 with hf | ⟨hg, hf⟩
    · rw [hnewloc n _ hf] at h3
      rcases hsplit n' r' h2 with hf' | ⟨hg', hf'⟩
      · rw [hnewloc n' _ hf'] at h4
        exact hR'.mem.inj n n' _ _ b hf hf' h3 h4 ho
      · rw [holdloc n' _ hf'] at h4
        exact (hcross n n' r r' b hf hg' hf' h3 h4 ho).elim
    · rw [holdloc n _ hf] at h3
      rcases hsplit n' r' h2 with hf' | ⟨hg', hf'⟩
      · rw [hnewloc n' _ hf'] at h4
        exfalso
        cases hro : r'.own with
        | true => exact hcross n' n r' r b hf' hg hf h4 h3 hro
        | false =>
          have hrow := hR'.mem.row n' _ hf'
          cases r' with
          | map kk l clock => cases hro
          | ptab xs => cases hro
          | cells c own tip =>
            simp only [Row.own] at hro
            subst hro
            rcases hrow with ⟨g1, _⟩ | ⟨b', zs, rest, e, fr, g1, g2, g3, g4, g5, g6, g7⟩
            · rw [h4] at g1; cases g1
            · rw [h4] at g1; cases g1
              rcases hF.sts b zs (g6 rfl) with h | h | h
              · exact hR.stable_not_owned h ⟨n, r, hf, ho, h3⟩
              · have := (hR.row n r hf).lt h3; omega
              · exact hother n r b hg hf h3 h
      · rw [holdloc n' _ hf'] at h4
        exact hR.inj n n' r r' b hf hf' h3 h4 ho
  · rcases hF.sts b cs e with h | h | h
    · exact .inl h
    · exact .inr (.inl h)
    · obtain ⟨n, r, _, g2, g3, g4⟩ := hown b h
      exact .inr (.inr ⟨n, r, g2, g3, g4⟩)
  · refine hF.keep b hb fun ho => hno ?_
    obtain ⟨n, r, _, g2, g3, g4⟩ := hown b ho
    exact ⟨n, r, g2, g3, g4⟩
  · obtain ⟨n, r, h1, h2, h3⟩ := ho
    rcases hsplit n r h1 with hf | ⟨hg, hf⟩
    · rw [hnewloc n _ hf] at h3
      rcases hblk n r b hf h2 h3 with h | h
      · omega
      · obtain ⟨n0, r0, _, g2, g3, g4⟩ := hown b h
        exact ⟨n0, r0, g2, g3, g4⟩
    · rw [holdloc n _ hf] at h3
      exact ⟨n, r, hf, h2, h3⟩

/-- Fewer rows behind it. -/
theorem SoundFn.sub {g : FuncId} {vs : List AV} {st : AS} {v : AV} {st' : AS} (h : SoundFn P g vs st v st') {m : List (Nat × Row)} (hm : ∀ n r, find m n = some r → find st'.mem n = some r) : SoundFn P g vs st v ⟨st'.next, m⟩ := fun κ us w hl hR => by
  refine (h κ us w hl hR).mono fun en w' he => ?_
  obtain ⟨κ1, v', hle, rfl, hv, hR', hF⟩ := he
  exact ⟨κ1, v', hle, rfl, hv, ⟨hR'.fresh, hR'.mem.sub hm⟩, ⟨hF.sts, hF.os, hF.tape, hF.output, hF.size, hF.keep, fun b hb ho => hF.owns b hb (owned.sub hm ho)⟩⟩
/-- A call on a part of the memory, the others' rows behind it. -/
theorem SoundFn.part {g : FuncId} {vs : List AV} {st : AS} {acc rest kept m : List (Nat × Row)} {v : AV} {st1 : AS} (h : SoundFn P g vs ⟨st.next, acc⟩ v st1) (hb : bnds (bndN 6 st.next) vs = true) (ha : accOk st.next acc = true) (hn : st.next ≤ st1.next)
    (hm : ∀ n r, find acc n = some r → find st.mem n = some r) (hr : ∀ n, find rest n = match find acc n with | some _ => none | none => find st.mem n) (hk : ∀ n x, find kept n = some x → find st1.mem n = some x) (hf : ∀ n, find m n = match find kept n with | some x => some x | none => find rest n) :
    SoundFn P g vs st v ⟨st1.next, m⟩ := by
  have h1 := (h.sub hk).frame hb ha hn (find st.mem) hm
  refine h1.sound (by dsimp only; omega) (funext fun n => ?_)
  dsimp only
  rw [hf, dels_sets, sets_rev]
  show _ = (match find kept n with | some r => some r | none => match find acc n with | some _ => none | none => find st.mem n)
  rw [hr]
end
end Go.Sv
namespace Go.Sv
noncomputable section
open Go.RowKit
variable {P : Program}

theorem fn_eq {g : FuncId} {fn : Func} {body : Code} (hg : P.funcs[g]? = some fn) (hb : fn.body = some body) : bodyOf P g = body ∧ szOf P g = fn.ntmps := by
  constructor
  · unfold bodyOf; rw [hg]; simp [hb]
  · unfold szOf; rw [hg]

theorem evCode_ok (hP : ProgOk P) {K : KT} (hK : KOk P K) {L : LT} (hL : LOk P L) {reg : (R : Type) → Reg R} (hreg : RegOk P reg) :
    ∀ (fuel : Nat) {R : Type} (g : FuncId) (c : Code) (E : Env) (st : AS) (k : EK → Env → AS → Option R) (r : R) (nb : Nat),
    codeOk (szOf P g) c = true → (∀ x ∈ blocks c, x ∈ blocks (bodyOf P g)) → (∀ x ∈ seqs c, x ∈ seqs (bodyOf P g)) → (∀ x ∈ regions c, x ∈ regions (bodyOf P g)) → nb ≤ st.next →
    evCode P K L reg fuel g c E st k = some r → ∃ e E' st', k e E' st' = some r ∧ st.next ≤ st'.next ∧ CodeOk P nb (szOf P g) c E st e E' st' ∧ ∀ body, c = .loop body → LoopOk P nb (szOf P g) body E st e E' st'
  | 0, R, g, c, E, st, k, r, nb, hco, hbl, hsq, hrg, hnb, h => by simp [evCode] at h
  | fuel + 1, R, g, c, E, st, k, r, nb, hco, hbl, hsq, hrg, hnb, h => by
    have ih := fun {R : Type} => evCode_ok hP hK hL hreg fuel (R := R)
    have inl : ∀ {R : Type} (h : FuncId) (vs : List AV) (st : AS) (k : AV → AS → Option R) (r : R) (fn : Func) (body : Code), P.funcs[h]? = some fn → fn.body = some body → vs.all (fun x => !isArr x) = true →
        evCode P K L reg fuel h body (enterEnv fn vs) st (finE P fn k) = some r → ∃ v st', k v st' = some r ∧ st.next ≤ st'.next ∧ SoundFn P h vs st v st' := by
      intro R h vs st k r fn body hg hb ha hh
      obtain ⟨e1, e2⟩ := fn_eq hg hb
      have := ih h body (enterEnv fn vs) st (finE P fn k) r st.next (by rw [e2]; exact hP.codes h fn body hg hb) (by rw [e1]; exact fun x hx => hx) (by rw [e1]; exact fun x hx => hx) (by rw [e1]; exact fun x hx => hx) (Nat.le_refl _) hh
      obtain ⟨e, E', st', hf, hn, hc, _⟩ := this
      rw [e2] at hc
      obtain ⟨v, hv, hs⟩ := fn_ok hg hb ha hc hf
      exact ⟨v, st', hv, hn, hs⟩
    have hreg0 : ∀ {E E' : Env} {st : AS} {e : EK} {c : Code}, e = .normal → (∀ (κ : Kap) (a : Act) (w : World), SRel κ (szOf P g) E a → c.wp P (fun ex a' w' => ex = .normal ∧ a' = a ∧ w' = w) a w) → E' = E → CodeOk P nb (szOf P g) c E st e E' st := by
      intro E E' st e c he hc hE κ a w hA hR
      subst he
      subst hE
      refine wp_mono (hc κ a w hA) fun ex a' w' hq => ?_
      obtain ⟨rfl, rfl, rfl⟩ := hq
      exact ⟨rfl, κ, Kap.leN_refl _ _, hA, hR, Fr.refl _ _ _⟩
    cases c with
    | skip =>
      simp only [evCode] at h
      exact ⟨_, _, _, h, Nat.le_refl _, fun κ a w hA hR => wp_skip ⟨rfl, κ, Kap.leN_refl _ _, hA, hR, Fr.refl _ _ _⟩, fun _ e => by cases e⟩
    | label l =>
      simp only [evCode] at h
      exact ⟨_, _, _, h, Nat.le_refl _, fun κ a w hA hR => wp_label ⟨rfl, κ, Kap.leN_refl _ _, hA, hR, Fr.refl _ _ _⟩, fun _ e => by cases e⟩
    | exit id =>
      simp only [evCode] at h
      exact ⟨_, _, _, h, Nat.le_refl _, fun κ a w hA hR => wp_exit ⟨rfl, κ, Kap.leN_refl _ _, hA, hR, Fr.refl _ _ _⟩, fun _ e => by cases e⟩
    | ret =>
      simp only [evCode] at h
      exact ⟨_, _, _, h, Nat.le_refl _, fun κ a w hA hR => wp_ret ⟨rfl, κ, Kap.leN_refl _ _, hA, hR, Fr.refl _ _ _⟩, fun _ e => by cases e⟩
    | goto l => simp [evCode] at h
    | refuse why => simp [evCode] at h
    | rangeFunc f params asg body => simp [evCode] at h
    | seq x y =>
      simp only [evCode] at h
      simp only [codeOk, Bool.and_eq_true] at hco
      split at h
      · rename_i F hF
        cases y with
        | block id body =>
          have hmem : (id, x, body) ∈ seqs (bodyOf P g) := hsq _ (by simp [seqs])
          obtain ⟨e, E', st', h1, h2, h3⟩ := hL.seq R g id E st F hF x body hmem nb hnb k r h
          exact ⟨e, E', st', h1, h2, h3, fun _ e => by cases e⟩
        | _ => cases hF
      · have hsx : ∀ z ∈ seqs x, z ∈ seqs (bodyOf P g) := fun z hz => hsq z (by simp [seqs, hz])
        have hsy : ∀ z ∈ seqs y, z ∈ seqs (bodyOf P g) := fun z hz => hsq z (by simp [seqs, hz])
        simp only [blocks, regions, List.mem_append] at hbl hrg
        obtain ⟨e1, A1, st1, h1, hn1, hx, _⟩ := ih g x E st _ r nb hco.1 (fun x hx => hbl x (.inl hx)) hsx (fun x hx => hrg x (.inl hx)) hnb h
        cases e1 with
        | normal =>
          obtain ⟨e2, A2, st2, h2, hn2, hy, _⟩ := ih g y A1 st1 k r nb hco.2 (fun x hx => hbl x (.inr hx)) hsy (fun x hx => hrg x (.inr hx)) (by omega) h1
          refine ⟨e2, A2, st2, h2, by omega, fun κ a w hA hR => wp_seq ?_, fun _ e => by cases e⟩
          refine wp_mono (hx κ a w hA hR) fun ex a' w' hq => ?_
          obtain ⟨rfl, κ', hle, hA', hR', hb⟩ := hq
          exact wp_mono (hy κ' a' w' hA' hR') fun ex a2 w2 hq2 => hq2.mono hle hb
        | exit i =>
          refine ⟨_, A1, st1, h1, hn1, fun κ a w hA hR => wp_seq ?_, fun _ e => by cases e⟩
          refine wp_mono (hx κ a w hA hR) fun ex a' w' hq => ?_
          have := hq.1
          subst this
          exact hq
        | ret =>
          refine ⟨_, A1, st1, h1, hn1, fun κ a w hA hR => wp_seq ?_, fun _ e => by cases e⟩
          refine wp_mono (hx κ a w hA hR) fun ex a' w' hq => ?_
          have := hq.1
          subst this
          exact hq
    | cond c x y =>
      simp only [evCode] at h
      simp only [codeOk, Bool.and_eq_true] at hco
      simp only [blocks, seqs, regions, List.mem_append] at hbl hsq hrg
      split at h
      · rename_i t
        split at h
        · rename_i b hb
          have hcond : ∀ κ (a : Act), SRel κ (szOf P g) E a → a.eval (.tmp t) = .bool b := fun κ a hA => by
            have := hA.rel.get t
            rw [hb] at this
            exact bool_of this
          cases b with
          | true =>
            simp only [cond_true, Env.setK_eq] at h
            obtain ⟨e1, A1, st1, h1, hn1, hx, _⟩ := ih g x _ st k r nb hco.1 (fun x hx => hbl x (.inl hx)) (fun x hx => hsq x (.inl hx)) (fun x hx => hrg x (.inl hx)) hnb h
            exact ⟨e1, A1, st1, h1, hn1, fun κ a w hA hR => wp_cond_true (hcond κ a hA) (hx κ a w (hA.again hb) hR), fun _ e => by cases e⟩
          | false =>
            simp only [cond_false, Env.setK_eq] at h
            obtain ⟨e1, A1, st1, h1, hn1, hx, _⟩ := ih g y _ st k r nb hco.2 (fun x hx => hbl x (.inr hx)) (fun x hx => hsq x (.inr hx)) (fun x hx => hrg x (.inr hx)) hnb h
            exact ⟨e1, A1, st1, h1, hn1, fun κ a w hA hR => wp_cond_false (hcond κ a hA) (hx κ a w (hA.again hb) hR), fun _ e => by cases e⟩
        · cases h
      · rename_i b
        cases b with
        | true =>
          simp only [cond_true] at h
          obtain ⟨e1, A1, st1, h1, hn1, hx, _⟩ := ih g x E st k r nb hco.1 (fun x hx => hbl x (.inl hx)) (fun x hx => hsq x (.inl hx)) (fun x hx => hrg x (.inl hx)) hnb h
          exact ⟨e1, A1, st1, h1, hn1, fun κ a w hA hR => wp_cond_true rfl (hx κ a w hA hR), fun _ e => by cases e⟩
        | false =>
          simp only [cond_false] at h
          obtain ⟨e1, A1, st1, h1, hn1, hx, _⟩ := ih g y E st k r nb hco.2 (fun x hx => hbl x (.inr hx)) (fun x hx => hsq x (.inr hx)) (fun x hx => hrg x (.inr hx)) hnb h
          exact ⟨e1, A1, st1, h1, hn1, fun κ a w hA hR => wp_cond_false rfl (hx κ a w hA hR), fun _ e => by cases e⟩
      · cases h
    | block id body =>
      simp only [evCode] at h
      simp only [codeOk] at hco
      simp only [regions, seqs] at hrg hsq
      have hmem : (id, body) ∈ blocks (bodyOf P g) := hbl _ (by simp [blocks])
      have hbl' : ∀ x ∈ blocks body, x ∈ blocks (bodyOf P g) := fun x hx => hbl x (by simp [blocks, hx])
      split at h
      · rename_i F hF
        obtain ⟨e, E', st', h1, h2, h3⟩ := hL.block R g id E st F hF body hmem nb hnb k r h
        exact ⟨e, E', st', h1, h2, h3, fun _ e => by cases e⟩
      · obtain ⟨e1, A1, st1, h1, hn1, hx, _⟩ := ih g body E st _ r nb hco hbl' hsq hrg hnb h
        cases e1 with
        | normal =>
          refine ⟨_, A1, st1, h1, hn1, fun κ a w hA hR => wp_block ?_, fun _ e => by cases e⟩
          refine wp_mono (hx κ a w hA hR) fun ex a' w' hq => ?_
          have := hq.1
          subst this
          exact hq
        | ret =>
          refine ⟨_, A1, st1, h1, hn1, fun κ a w hA hR => wp_block ?_, fun _ e => by cases e⟩
          refine wp_mono (hx κ a w hA hR) fun ex a' w' hq => ?_
          have := hq.1
          subst this
          exact hq
        | exit i =>
          simp only at h1
          cases hi : Nat.beq i id with
          | true =>
            have hi' := Nat.eq_of_beq_eq_true hi
            simp only [hi, cond_true] at h1
            refine ⟨_, A1, st1, h1, hn1, fun κ a w hA hR => wp_block ?_, fun _ e => by cases e⟩
            refine wp_mono (hx κ a w hA hR) fun ex a' w' hq => ?_
            obtain ⟨rfl, hq⟩ := hq
            subst hi'
            show Exit.inBlock i _ (.exit i) a' w'
            simp only [Exit.inBlock, if_true]
            exact ⟨rfl, hq⟩
          | false =>
            have hi' : i ≠ id := fun e => by subst e; simp at hi
            simp only [hi, cond_false] at h1
            refine ⟨_, A1, st1, h1, hn1, fun κ a w hA hR => wp_block ?_, fun _ e => by cases e⟩
            refine wp_mono (hx κ a w hA hR) fun ex a' w' hq => ?_
            obtain ⟨rfl, hq⟩ := hq
            show Exit.inBlock id _ (.exit i) a' w'
            simp only [Exit.inBlock, if_neg hi']
            exact ⟨rfl, hq⟩
    | loop body =>
      simp only [evCode] at h
      have hco' := hco
      have hbl' := hbl
      have hsq' := hsq
      have hrg' := hrg
      simp only [codeOk] at hco
      simp only [blocks, seqs, regions] at hbl hsq hrg
      obtain ⟨e1, A1, st1, h1, hn1, hx, _⟩ := ih g body E st _ r nb hco hbl hsq hrg hnb h
      have key : ∃ e A' st', k e A' st' = some r ∧ st.next ≤ st'.next ∧ LoopOk P nb (szOf P g) body E st e A' st' := by
        cases e1 with
        | normal =>
          obtain ⟨e2, A2, st2, h2, hn2, _, hl⟩ := ih g (.loop body) A1 st1 k r nb hco' hbl' hsq' hrg' (by omega) h1
          obtain ⟨n, hn⟩ := hl body rfl
          refine ⟨e2, A2, st2, h2, by omega, n + 1, fun κ a w hA hR => ?_⟩
          rw [rounds_succ]
          refine wp_mono (hx κ a w hA hR) fun ex a' w' hq => ?_
          obtain ⟨rfl, κ', hle, hA', hR', hb⟩ := hq
          exact rounds_mono (fun ex a2 w2 hq2 => hq2.mono hle hb) n a' w' (hn κ' a' w' hA' hR')
        | exit i =>
          refine ⟨_, A1, st1, h1, hn1, 1, fun κ a w hA hR => ?_⟩
          rw [rounds_succ]
          refine wp_mono (hx κ a w hA hR) fun ex a' w' hq => ?_
          have := hq.1
          subst this
          exact hq
        | ret =>
          refine ⟨_, A1, st1, h1, hn1, 1, fun κ a w hA hR => ?_⟩
          rw [rounds_succ]
          refine wp_mono (hx κ a w hA hR) fun ex a' w' hq => ?_
          have := hq.1
          subst this
          exact hq
      obtain ⟨e, A', st', hk, hn, hl⟩ := key
      refine ⟨e, A', st', hk, hn, fun κ a w hA hR => ?_, fun b hb => by cases hb; exact hl⟩
      obtain ⟨n, hn⟩ := hl
      exact wp_loop_rounds n (hn κ a w hA hR)
    | scope body =>
      simp only [evCode] at h
      simp only [codeOk] at hco
      simp only [blocks, seqs, regions] at hbl hsq hrg
      obtain ⟨e1, A1, st1, h1, hn1, hx, _⟩ := ih g body E st k r nb hco hbl hsq hrg hnb h
      refine ⟨e1, A1, st1, h1, hn1, fun κ a w hA hR => wp_scope_straight ?_, fun _ e => by cases e⟩
      refine wp_mono (hx κ a w hA hR) fun ex a' w' hq => ?_
      obtain ⟨rfl, hq⟩ := hq
      cases e1 <;> exact ⟨rfl, hq⟩
    | region id ops draw =>
      simp only [evCode] at h
      cases draw with
      | true =>
        simp only [cond_true] at h
        have hmem : (id, ops) ∈ regions (bodyOf P g) := hrg _ (by simp [regions])
        obtain ⟨E', st', hk, hn, hc⟩ := hreg R _ (by
          intro h vs st k r ha hh
          dsimp only at hh
          split at hh
          · rename_i F hkk
            exact hK _ _ _ _ _ hkk _ _ hh
          · split at hh
            · cases hh
            · rename_i fn hg
              split at hh
              · cases hh
              · rename_i body hb
                obtain ⟨acc, rest, hh, hacc, _⟩ := partT_some hh
                obtain ⟨hck, hh⟩ := cond_some hh
                simp only [Bool.and_eq_true] at hck
                rw [argsK_eq] at hh
                obtain ⟨v, st', hv, hn, hs⟩ := inl h vs _ _ r fn body hg hb ha hh
                obtain ⟨kept, m, hv, hk, hf⟩ := gcK_some hv
                unfold entOf at hv
                obtain ⟨_, hv⟩ := cond_some hv
                exact ⟨_, hv, (hs.sub (m := m) fun n x e => by
                  rw [hf] at e
                  cases hkn : find kept n with
                  | some y => rw [hkn] at e; cases e; exact hk n _ hkn
                  | none => rw [hkn] at e; simp [find] at e).frame hck.1 hck.2 hn _ hacc⟩) g id ops hmem E st _ r h
        refine ⟨.normal, E', st', hk, hn, fun κ a w hA hR => ?_, fun _ e => by cases e⟩
        refine wp_mono (hc κ a w hA hR) fun ex a' w' hq => ?_
        obtain ⟨e1, κ', h1, h2⟩ := hq
        exact ⟨e1, κ', h1.mono hnb, h2⟩
      | false =>
        simp only [cond_false] at h
        simp only [codeOk] at hco
        obtain ⟨E', st', hk, hn, hc⟩ := opsE_ok hP.zeros hP.flat hP.names (by
          intro h vs st k r ha hh
          dsimp only at hh
          split at hh
          · rename_i F hkk
            obtain ⟨e, he, hs⟩ := hK _ _ _ _ _ hkk _ _ hh
            obtain ⟨st', h1, h2, h3⟩ := applyK_some he
            exact ⟨_, st', h1, by omega, hs.sound h2 h3⟩
          · split at hh
            · cases hh
            · rename_i fn hg
              split at hh
              · cases hh
              · rename_i body hb
                cases hleaf : leafB body with
                | true =>
                  rw [hleaf, cond_true, argsK_eq] at hh
                  exact inl h vs _ _ r fn body hg hb ha hh
                | false =>
                  rw [hleaf, cond_false] at hh
                  split at hh
                  · obtain ⟨hck, hh⟩ := cond_some hh
                    rw [argsK_eq] at hh
                    obtain ⟨v, st', hv, hn, hs⟩ := inl h vs _ _ r fn body hg hb ha hh
                    obtain ⟨kept, m, hv, hk, hf⟩ := gcK_some hv
                    exact ⟨v, _, hv, hn, hs.part hck rfl hn (fun n r e => by simp [find] at e) (fun n => rfl) hk hf⟩
                  · cases hlong : longer 80 st.mem with
                    | true =>
                      rw [hlong, cond_true] at hh
                      obtain ⟨acc, rest, hh, hacc, hrest⟩ := partT_some hh
                      obtain ⟨hck, hh⟩ := cond_some hh
                      simp only [Bool.and_eq_true] at hck
                      rw [argsK_eq] at hh
                      obtain ⟨v, st', hv, hn, hs⟩ := inl h vs _ _ r fn body hg hb ha hh
                      obtain ⟨kept, m, hv, hk, hf⟩ := gcK_some hv
                      exact ⟨v, _, hv, hn, hs.part hck.1 hck.2 hn hacc hrest hk hf⟩
                    | false =>
                      rw [hlong, cond_false, argsK_eq] at hh
                      exact inl h vs _ _ r fn body hg hb ha hh) _ _ _ _ r hco h
        refine ⟨.normal, E', st', hk, hn, fun κ a w hA hR => wp_region_list (hc κ a w _ hA hR fun κ' a' w' hle hA' hR' hb => ?_), fun _ e => by cases e⟩
        exact ⟨rfl, κ', hle.mono hnb, hA', hR', hb⟩

theorem evFn_ok (hP : ProgOk P) {K : KT} (hK : KOk P K) {L : LT} (hL : LOk P L) {reg : (R : Type) → Reg R} (hreg : RegOk P reg) {R : Type} {fuel : Nat} {g : FuncId} {vs : List AV} {st : AS} {k : AV → AS → Option R} {r : R} (ha : vs.all (fun x => !isArr x) = true)
    (h : evFn P K L reg fuel g vs st k = some r) : ∃ v st', k v st' = some r ∧ st.next ≤ st'.next ∧ SoundFn P g vs st v st' := by
  unfold evFn at h
  split at h
  · cases h
  · rename_i fn hg
    split at h
    · cases h
    · rename_i body hb
      rw [argsK_eq] at h
      obtain ⟨e1, e2⟩ := fn_eq hg hb
      obtain ⟨e, E', st', hf, hn, hc, _⟩ := evCode_ok hP hK hL hreg fuel g body _ st _ r st.next (by rw [e2]; exact hP.codes g fn body hg hb) (by rw [e1]; exact fun x hx => hx) (by rw [e1]; exact fun x hx => hx) (by rw [e1]; exact fun x hx => hx) (Nat.le_refl _) h
      rw [e2] at hc
      obtain ⟨v, hv, hs⟩ := fn_ok hg hb ha hc hf
      exact ⟨v, st', hv, hn, hs⟩
end
end Go.Sv
