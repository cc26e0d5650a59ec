/- The evaluator and the contracts that the walk leans on, part Bc: SvM, SvN, SvE, SvF, SvG, SvH, SvI. -/
import Derived.Test.YtopgjinjjpplcaaBb
import Derived.MapKept
namespace Go.Sv
open Go.RowKit
variable {P : Program}

/-! ### keys -/
def bytesEq : List UInt8 → List UInt8 → Bool
  | [], [] => true
  | a :: as, b :: bs => Nat.beq a.toNat b.toNat && bytesEq as bs
  | _, _ => false
theorem bytesEq_iff : ∀ {a b : List UInt8}, bytesEq a b = true ↔ a = b
  | [], [] => by simp [bytesEq]
  | [], _ :: _ => by simp [bytesEq]
  | _ :: _, [] => by simp [bytesEq]
  | a :: as, b :: bs => by
    simp only [bytesEq, Bool.and_eq_true, bytesEq_iff, List.cons.injEq]
    constructor
    · rintro ⟨h, rfl⟩
      exact ⟨UInt8.toNat_inj.1 (Nat.eq_of_beq_eq_true h), rfl⟩
    · rintro ⟨rfl, rfl⟩
      exact ⟨by simp, rfl⟩
def keyEq : Key → Key → Bool
  | .i a, .i b => a == b
  | .s a, .s b => bytesEq a b
  | _, _ => false
def keyOf : Option IntKind → AV → Option Key
  | some k, .int k' n => bif decide (k' = k) then some (.i n) else none
  | none, .str s => some (.s s)
  | _, _ => none
theorem keyOf_ok {kk : Option IntKind} {v : AV} {K : Key} (h : keyOf kk v = some K) {κ : Kap} {y : Value} (hv : VRel κ v y) : KeyV kk K y := by
  unfold keyOf at h
  split at h
  · obtain ⟨h1, h2⟩ := cond_some h
    have := of_decide_eq_true h1
    simp only [Option.some.injEq] at h2
    subst h2; subst this
    cases hv; exact ⟨rfl, rfl⟩
  · simp only [Option.some.injEq] at h
    subst h
    cases hv; rfl
  · cases h
theorem keyV_iff {kk : Option IntKind} {a b : Key} {x y : Value} (h : KeyV kk a x) (k : KeyV kk b y) : keyEq a b = true ↔ x = y := by
  cases kk with
  | none =>
    cases a <;> cases x <;> first | (cases h; done) | skip
    cases b <;> cases y <;> first | (cases k; done) | skip
    simp only [KeyV] at h k
    subst h; subst k
    simp only [keyEq, bytesEq_iff, Value.string.injEq, ByteArray.mk.injEq]
    constructor
    · intro h; rw [h]
    · intro h; simpa using congrArg Array.toList h
  | some q =>
    cases a <;> cases x <;> first | (cases h; done) | skip
    cases b <;> cases y <;> first | (cases k; done) | skip
    simp only [KeyV] at h k
    obtain ⟨rfl, rfl⟩ := h
    obtain ⟨rfl, rfl⟩ := k
    simp [keyEq]
def kkDesc : Option IntKind → TypeDesc
  | some k => .int k
  | none => .string
theorem keyV_isKey {kk : Option IntKind} {a : Key} {x : Value} (h : KeyV kk a x) : MapKept.IsKey (kkDesc kk) x := by
  cases kk <;> cases a <;> cases x <;> first | (cases h; done) | skip
  · trivial
  · exact h.1
/-- A map's type: the keys' kind, the keys' and the values' type. -/
def mapTy (P : Program) (t : TypeId) : Option (Option IntKind × TypeId × TypeId) :=
  match P.underlying t with
  | some (.map key elem) => match P.underlying key with
    | some (.int k) => some (some k, key, elem)
    | some .string => some (none, key, elem)
    | _ => none
  | _ => none
theorem mapTy_ok {t : TypeId} {kk : Option IntKind} {key elem : TypeId} (h : mapTy P t = some (kk, key, elem)) : P.underlying t = some (.map key elem) ∧ P.underlying key = some (kkDesc kk) := by
  unfold mapTy at h
  split at h
  · rename_i key' elem' ht
    split at h
    · rename_i k hk
      simp only [Option.some.injEq, Prod.mk.injEq] at h
      obtain ⟨rfl, rfl, rfl⟩ := h
      exact ⟨ht, hk⟩
    · rename_i hk
      simp only [Option.some.injEq, Prod.mk.injEq] at h
      obtain ⟨rfl, rfl, rfl⟩ := h
      exact ⟨ht, hk⟩
    · cases h
  · cases h

/-! ### entries -/
section
variable {R : Type}
def lookK (l : List (Key × Nat × AV)) (K : Key) (found : AV → Option R) (missing : Option R) : Option R :=
  match l with
  | [] => missing
  | (k, _, v) :: l => bif keyEq K k then found v else lookK l K found missing
def putMapK (l : List (Key × Nat × AV)) (clock : Nat) (K : Key) (v : AV) (k : List (Key × Nat × AV) → Nat → Option R) : Option R :=
  match l with
  | [] => k [(K, clock, v)] (clock + 1)
  | (k', b', v') :: l => bif keyEq K k' then k ((K, b', v) :: l) clock else putMapK l clock K v fun l' c => k ((k', b', v') :: l') c
def delMapK (l : List (Key × Nat × AV)) (K : Key) (k : List (Key × Nat × AV) → Option R) : Option R :=
  match l with
  | [] => k []
  | (k', b', v') :: l => bif keyEq K k' then k l else delMapK l K fun l' => k ((k', b', v') :: l')
end
theorem Ents.isKey {κ : Kap} {kk : Option IntKind} : ∀ {l : List (Key × Nat × AV)} {es : List MapEntry}, Ents κ kk l es → ∀ e ∈ es, MapKept.IsKey (kkDesc kk) e.key
  | [], [], _, e, he => by cases he
  | (_, _, _) :: _, _ :: es, h, e, he => by
    rcases List.mem_cons.1 he with rfl | he
    · exact keyV_isKey h.1.1.1
    · exact Ents.isKey h.2 e he
  | [], _ :: _, h, _, _ => h.elim
  | _ :: _, [], h, _, _ => h.elim
theorem Ents.length {κ : Kap} {kk : Option IntKind} : ∀ {l : List (Key × Nat × AV)} {es : List MapEntry}, Ents κ kk l es → es.length = l.length
  | [], [], _ => rfl
  | (_, _, _) :: _, _ :: _, h => by simp [Ents.length h.2]
  | [], _ :: _, h => h.elim
  | _ :: _, [], h => h.elim
theorem lookK_ok {R : Type} {K : Key} {found : AV → Option R} {missing : Option R} {r : R} : ∀ {l : List (Key × Nat × AV)}, lookK l K found missing = some r →
    (missing = some r ∧ ∀ κ kk es y, Ents κ kk l es → KeyV kk K y → ∀ e ∈ es, e.key ≠ y) ∨
    (∃ v, found v = some r ∧ ∀ κ kk es y, Ents κ kk l es → KeyV kk K y → ∃ (j : Nat) (e : MapEntry), es[j]? = some e ∧ e.key = y ∧ VRel κ.nl v e.val)
  | [], h => .inl ⟨h, fun κ kk es y he _ => by cases es <;> simp [Ents] at he ⊢⟩
  | (k, b, v) :: l, h => by
    simp only [lookK] at h
    cases hb : keyEq K k with
    | true =>
      rw [hb, cond_true] at h
      refine .inr ⟨v, h, fun κ kk es y he hy => ?_⟩
      cases es with
      | nil => exact he.elim
      | cons e es => exact ⟨0, e, rfl, ((keyV_iff hy he.1.1.1).1 hb).symm, he.1.2⟩
    | false =>
      rw [hb, cond_false] at h
      rcases lookK_ok h with ⟨h1, h2⟩ | ⟨v', h1, h2⟩
      · refine .inl ⟨h1, fun κ kk es y he hy => ?_⟩
        cases es with
        | nil => exact he.elim
        | cons e es =>
          intro e' he'
          rcases List.mem_cons.1 he' with rfl | he'
          · intro q
            rw [(keyV_iff hy he.1.1.1).2 q.symm] at hb; cases hb
          · exact h2 κ kk es y he.2 hy e' he'
      · refine .inr ⟨v', h1, fun κ kk es y he hy => ?_⟩
        cases es with
        | nil => exact he.elim
        | cons e es =>
          obtain ⟨j, e', a, b, c⟩ := h2 κ kk es y he.2 hy
          exact ⟨j + 1, e', by simpa using a, b, c⟩
/-- An entry that is put: the list as it is then, where it stands. -/
theorem putMapK_ok {R : Type} {clock : Nat} {K : Key} {v : AV} {r : R} : ∀ {l : List (Key × Nat × AV)} {k : List (Key × Nat × AV) → Nat → Option R}, putMapK l clock K v k = some r →
    ∃ l' c', k l' c' = some r ∧ ∀ κ kk es y z, Ents κ kk l es → KeyV kk K y → VRel κ.nl v z →
      ((∀ e ∈ es, e.key ≠ y) ∧ Ents κ kk l' (es ++ [⟨y, z, clock⟩]) ∧ c' = clock + 1) ∨
      (∃ (j : Nat) (e : MapEntry), es[j]? = some e ∧ e.key = y ∧ Ents κ kk l' (es.set j ⟨y, z, e.born⟩) ∧ c' = clock)
  | [], k, h => ⟨_, _, h, fun κ kk es y z he hy hz => by
      cases es with
      | cons _ _ => exact he.elim
      | nil => exact .inl ⟨by simp, ⟨⟨⟨hy, rfl⟩, hz⟩, trivial⟩, rfl⟩⟩
  | (k', b', v') :: l, k, h => by
    simp only [putMapK] at h
    cases hb : keyEq K k' with
    | true =>
      rw [hb, cond_true] at h
      refine ⟨_, _, h, fun κ kk es y z he hy hz => ?_⟩
      cases es with
      | nil => exact he.elim
      | cons e es => exact .inr ⟨0, e, rfl, ((keyV_iff hy he.1.1.1).1 hb).symm, ⟨⟨⟨hy, he.1.1.2⟩, hz⟩, he.2⟩, rfl⟩
    | false =>
      rw [hb, cond_false] at h
      obtain ⟨l', c', h1, h2⟩ := putMapK_ok h
      refine ⟨_, _, h1, fun κ kk es y z he hy hz => ?_⟩
      cases es with
      | nil => exact he.elim
      | cons e es =>
        rcases h2 κ kk es y z he.2 hy hz with ⟨a, b, c⟩ | ⟨j, e', a, b, c, d⟩
        · refine .inl ⟨fun e' he' => ?_, ⟨he.1, b⟩, c⟩
          rcases List.mem_cons.1 he' with rfl | he'
          · intro q
            rw [(keyV_iff hy he.1.1.1).2 q.symm] at hb; cases hb
          · exact a e' he'
        · exact .inr ⟨j + 1, e', by simpa using a, b, ⟨he.1, c⟩, d⟩
theorem delMapK_ok {R : Type} {K : Key} {r : R} : ∀ {l : List (Key × Nat × AV)} {k : List (Key × Nat × AV) → Option R}, delMapK l K k = some r →
    ∃ l', k l' = some r ∧ ∀ κ kk es y, Ents κ kk l es → KeyV kk K y →
      ((∀ e ∈ es, e.key ≠ y) ∧ l' = l) ∨ (∃ (j : Nat) (e : MapEntry), es[j]? = some e ∧ e.key = y ∧ Ents κ kk l' (es.eraseIdx j))
  | [], k, h => ⟨_, h, fun κ kk es y he hy => by
      cases es with
      | cons _ _ => exact he.elim
      | nil => exact .inl ⟨by simp, rfl⟩⟩
  | (k', b', v') :: l, k, h => by
    simp only [delMapK] at h
    cases hb : keyEq K k' with
    | true =>
      rw [hb, cond_true] at h
      refine ⟨_, h, fun κ kk es y he hy => ?_⟩
      cases es with
      | nil => exact he.elim
      | cons e es => exact .inr ⟨0, e, rfl, ((keyV_iff hy he.1.1.1).1 hb).symm, he.2⟩
    | false =>
      rw [hb, cond_false] at h
      obtain ⟨l', h1, h2⟩ := delMapK_ok h
      refine ⟨_, h1, fun κ kk es y he hy => ?_⟩
      cases es with
      | nil => exact he.elim
      | cons e es =>
        rcases h2 κ kk es y he.2 hy with ⟨a, b⟩ | ⟨j, e', a, b, c⟩
        · refine .inl ⟨fun e' he' => ?_, by rw [b]⟩
          rcases List.mem_cons.1 he' with rfl | he'
          · intro q
            rw [(keyV_iff hy he.1.1.1).2 q.symm] at hb; cases hb
          · exact a e' he'
        · exact .inr ⟨j + 1, e', by simpa using a, b, ⟨he.1, c⟩⟩

/-- A type's zero value. -/
def zeroAV (P : Program) (t : TypeId) : Option AV :=
  match qrun P (zeroValue t) with
  | some (.agg _) => match zeroT P t with
    | some c => some (.agg c)
    | none => none
  | some z => match zeroT P t with
    | some [x] => bif oneV z && !isArr x then some x else none
    | _ => none
  | none => none
theorem zeroAV_ok (hZ : ZerosOk P) {t : TypeId} {v : AV} (h : zeroAV P t = some v) : isArr v = false ∧ ∃ z, qrun P (zeroValue t) = some z ∧ ∀ κ, VRel κ v z := by
  unfold zeroAV at h
  split at h
  · rename_i cs hz
    split at h
    · rename_i c hc
      simp only [Option.some.injEq] at h; subst h
      refine ⟨rfl, _, hz, fun κ => ?_⟩
      have := (zero_rel hZ hc hz).2 κ
      exact .agg c cs.toList this .nil
    · cases h
  · rename_i z hne hz
    split at h
    · rename_i x hc
      obtain ⟨hb, h⟩ := cond_some h
      simp only [Bool.and_eq_true, Bool.not_eq_true'] at hb
      simp only [Option.some.injEq] at h; subst h
      refine ⟨hb.2, z, hz, fun κ => ?_⟩
      have := (zero_rel hZ hc hz).2 κ
      have e : z.cells.toList = [z] := by cases z <;> first | rfl | (simp [oneV] at hb; done)
      rw [e] at this; exact this
    · cases h
  · cases h

/-! ### pairs of numbers -/
def hasId (id : Int) (xs : List (Int × Int)) : Bool := xs.any fun x => x.1 == id
def bytF (id : Int) : List (Int × Int) → Int
  | [] => 0
  | x :: r => bif x.1 == id then x.2 else bytF id r
def putP (id z : Int) : List (Int × Int) → List (Int × Int)
  | [] => [(id, z)]
  | x :: r => bif x.1 == id then (id, z) :: r else x :: putP id z r
def delP (id : Int) : List (Int × Int) → List (Int × Int)
  | [] => []
  | x :: r => bif x.1 == id then r else x :: delP id r
theorem bytF_none (id : Int) : ∀ (xs : List (Int × Int)), hasId id xs = false → bytF id xs = 0
  | [], _ => rfl
  | x :: r, h => by
    simp only [hasId, List.any_cons, Bool.or_eq_false_iff] at h
    simp only [bytF, h.1, cond_false]
    exact bytF_none id r h.2
theorem pt_cons {xs : List (Int × Int)} {e : Key × Nat × AV} {l : List (Key × Nat × AV)} (h : PT xs (e :: l)) : ∃ x r, xs = x :: r ∧ e = (.i x.1, e.2.1, .int .i64 x.2) ∧ PT r l := by
  unfold PT at h
  cases xs with
  | nil => simp at h
  | cons x r =>
    simp only [List.map_cons, List.cons.injEq, Prod.mk.injEq] at h
    obtain ⟨k, b, v⟩ := e
    obtain ⟨⟨h1, h2⟩, h3⟩ := h
    dsimp only at h1 h2
    subst h1; subst h2
    exact ⟨x, r, rfl, rfl, h3⟩
theorem pt_nil {xs : List (Int × Int)} (h : PT xs []) : xs = [] := by
  unfold PT at h
  cases xs with
  | nil => rfl
  | cons x r => simp at h
theorem pt_look (id : Int) : ∀ {l : List (Key × Nat × AV)} {xs : List (Int × Int)}, PT xs l → lookK l (.i id) (fun v => some (some v)) (some none) = some (bif hasId id xs then some (AV.int .i64 (bytF id xs)) else none)
  | [], xs, h => by rw [pt_nil h]; rfl
  | e :: l, xs, h => by
    obtain ⟨x, r, rfl, he, hr⟩ := pt_cons h
    have ih := pt_look id hr
    rw [he]
    have hk : keyEq (.i id) (.i x.1) = (x.1 == id) := by
      simp only [keyEq]
      exact Bool.eq_iff_iff.2 ⟨fun h => by simp only [beq_iff_eq] at h ⊢; exact h.symm, fun h => by simp only [beq_iff_eq] at h ⊢; exact h.symm⟩
    simp only [lookK, hk, hasId, List.any_cons, bytF]
    cases hb : (x.1 == id) with
    | true => simp
    | false => simpa [hasId] using ih
theorem pt_put (id z : Int) (clock : Nat) : ∀ {l : List (Key × Nat × AV)} {xs : List (Int × Int)}, PT xs l → ∃ l' c', PT (putP id z xs) l' ∧ putMapK l clock (.i id) (.int .i64 z) (fun l' c' => some (l', c')) = some (l', c') ∧ ∀ {R : Type} (k : List (Key × Nat × AV) → Nat → Option R), putMapK l clock (.i id) (.int .i64 z) k = k l' c'
  | [], xs, h => by rw [pt_nil h]; exact ⟨[(.i id, clock, .int .i64 z)], clock + 1, rfl, rfl, fun _ => rfl⟩
  | e :: l, xs, h => by
    obtain ⟨x, r, rfl, he, hr⟩ := pt_cons h
    obtain ⟨l', c', h1, _, h2⟩ := pt_put id z clock hr
    rw [he]
    have hk : keyEq (.i id) (.i x.1) = (x.1 == id) := by
      simp only [keyEq]
      exact Bool.eq_iff_iff.2 ⟨fun h => by simp only [beq_iff_eq] at h ⊢; exact h.symm, fun h => by simp only [beq_iff_eq] at h ⊢; exact h.symm⟩
    simp only [putMapK, hk, putP]
    cases hb : (x.1 == id) with
    | true => exact ⟨(.i id, e.2.1, .int .i64 z) :: l, clock, by simp only [cond_true, PT, List.map_cons]; rw [show l.map (fun e => (e.1, e.2.2)) = r.map (fun x => (Key.i x.1, AV.int .i64 x.2)) from hr], rfl, fun _ => rfl⟩
    | false => exact ⟨(.i x.1, e.2.1, .int .i64 x.2) :: l', c', by simp only [cond_false, PT, List.map_cons]; rw [show l'.map (fun e => (e.1, e.2.2)) = (putP id z r).map (fun x => (Key.i x.1, AV.int .i64 x.2)) from h1], by simp only [cond_false, h2], fun k => by simp only [cond_false, h2]⟩
theorem pt_del (id : Int) : ∀ {l : List (Key × Nat × AV)} {xs : List (Int × Int)}, PT xs l → ∃ l', PT (delP id xs) l' ∧ delMapK l (.i id) (fun l' => some l') = some l' ∧ ∀ {R : Type} (k : List (Key × Nat × AV) → Option R), delMapK l (.i id) k = k l'
  | [], xs, h => by rw [pt_nil h]; exact ⟨[], rfl, rfl, fun _ => rfl⟩
  | e :: l, xs, h => by
    obtain ⟨x, r, rfl, he, hr⟩ := pt_cons h
    obtain ⟨l', h1, _, h2⟩ := pt_del id hr
    rw [he]
    have hk : keyEq (.i id) (.i x.1) = (x.1 == id) := by
      simp only [keyEq]
      exact Bool.eq_iff_iff.2 ⟨fun h => by simp only [beq_iff_eq] at h ⊢; exact h.symm, fun h => by simp only [beq_iff_eq] at h ⊢; exact h.symm⟩
    simp only [delMapK, hk, delP]
    cases hb : (x.1 == id) with
    | true => exact ⟨l, hr, rfl, fun _ => rfl⟩
    | false => exact ⟨(.i x.1, e.2.1, .int .i64 x.2) :: l', by simp only [cond_false, PT, List.map_cons]; rw [show l'.map (fun e => (e.1, e.2.2)) = (delP id r).map (fun x => (Key.i x.1, AV.int .i64 x.2)) from h1], by simp only [cond_false, h2], fun k => by simp only [cond_false, h2]⟩
def zeroI : Option AV → Bool
  | some (.int .i64 z) => z == 0
  | _ => false
theorem zeroI_eq {o : Option AV} (h : zeroI o = true) : o = some (.int .i64 0) := by
  unfold zeroI at h
  split at h
  · rw [beq_iff_eq] at h; rw [h]
  · cases h

/-! ### operations -/
section
variable {R : Type} (P)
def makeMapE (t : TypeId) (reserve : Option Operand) (E : Env) (st : AS) (k : Ent → Option R) : Option R :=
  match mapTy P t with
  | some (kk, _, _) =>
    let done := k ⟨.mp st.next, [(st.next, some (.map kk [] 0))], 1, []⟩
    match reserve with
    | none => done
    | some x => match aeval E x with
      | some (.int _ _) => done
      | _ => none
  | none => none
def foundK (ok : Bool) (rd : List Nat) (k : Ent → Option R) (v : AV) (b : Bool) : Option R :=
  bif isArr v then none else bif ok then k ⟨.tup [v, .bool b], [], 0, rd⟩ else k ⟨v, [], 0, rd⟩
def lookupE (t : TypeId) (x ix : Operand) (ok : Bool) (E : Env) (m : List (Nat × Row)) (k : Ent → Option R) : Option R :=
  match mapTy P t with
  | some (kk, _, elem) => match aeval E ix with
    | some iv => match keyOf kk iv with
      | some K => match aeval E x with
        | some (.mp n) => match find m n with
          | some (.map kk' l _) => bif decide (kk' = kk) then lookK l K (fun v => foundK ok [n] k v true)
              (match zeroAV P elem with
               | some z => foundK ok [n] k z false
               | none => none) else none
          | some (.ptab xs) => match K with
            | .i id => bif decide (kk = some .i64) then
                bif !ok && zeroI (zeroAV P elem) then foundK ok [n] k (.int .i64 (bytF id xs)) true
                else bif hasId id xs then foundK ok [n] k (.int .i64 (bytF id xs)) true
                else (match zeroAV P elem with
                 | some z => foundK ok [n] k z false
                 | none => none) else none
            | _ => none
          | _ => none
        | some (.raw (.map none)) => match zeroAV P elem with
          | some z => foundK ok [] k z false
          | none => none
        | _ => none
      | none => none
    | none => none
  | none => none
def shedVK (m : List (Nat × Row)) (x : AV) (k : AV → List Nat → Option R) : Option R :=
  match x with
  | .agg c => shedK m c fun c' ns => k (.agg c') ns
  | x => shed1K m x k
def mapUpdateE (t : TypeId) (x ix y : Operand) (E : Env) (m : List (Nat × Row)) (k : Ent → Option R) : Option R :=
  match mapTy P t with
  | some (kk, _, _) => match aeval E ix with
    | some iv => match keyOf kk iv with
      | some K => match aeval E x with
        | some (.mp n) => match find m n with
          | some (.map kk' l clock) => match aeval E y with
            | some v => bif decide (kk' = kk) then shedVK m v fun v' ns => bif memB ns n then none else putMapK l clock K v' fun l' c' => k ⟨.raw undef, frz m ns ++ [(n, some (.map kk l' c'))], 0, n :: ns⟩ else none
            | none => none
          | some (.ptab xs) => match K with
            | .i id => match aeval E y with
              | some (.int .i64 z) => bif decide (kk = some .i64) then k ⟨.raw undef, [(n, some (.ptab (putP id z xs)))], 0, [n]⟩ else none
              | _ => none
            | _ => none
          | _ => none
        | _ => none
      | none => none
    | none => none
  | none => none
def deleteE (t : TypeId) (x ix : Operand) (E : Env) (m : List (Nat × Row)) (k : Ent → Option R) : Option R :=
  match mapTy P t with
  | some (kk, _, _) => match aeval E ix with
    | some iv => match keyOf kk iv with
      | some K => match aeval E x with
        | some (.mp n) => match find m n with
          | some (.map kk' l clock) => bif decide (kk' = kk) then delMapK l K fun l' => k ⟨.raw (.tuple #[]), [(n, some (.map kk l' clock))], 0, [n]⟩ else none
          | some (.ptab xs) => match K with
            | .i id => bif decide (kk = some .i64) then k ⟨.raw (.tuple #[]), [(n, some (.ptab (delP id xs)))], 0, [n]⟩ else none
            | _ => none
          | _ => none
        | some (.raw (.map none)) => k ⟨.raw (.tuple #[]), [], 0, []⟩
        | _ => none
      | none => none
    | none => none
  | none => none
end
end Go.Sv
namespace Go.Sv
open Go.RowKit MapKept
variable {P : Program}

theorem nodup_at {α β : Type} {f : α → β} : ∀ {l : List α}, (l.map f).Nodup → ∀ {i j : Nat} {a b : α}, l[i]? = some a → l[j]? = some b → f a = f b → i = j
  | [], _, i, j, a, b, h, _, _ => by simp at h
  | x :: l, h, i, j, a, b, ha, hb, hf => by
    simp only [List.map_cons, List.nodup_cons] at h
    cases i with
    | zero =>
      cases j with
      | zero => rfl
      | succ j =>
        simp at ha hb; subst ha
        exact absurd (List.mem_map.2 ⟨b, List.mem_of_getElem? hb, hf.symm⟩) h.1
    | succ i =>
      cases j with
      | zero =>
        simp at ha hb; subst hb
        exact absurd (List.mem_map.2 ⟨a, List.mem_of_getElem? ha, hf⟩) h.1
      | succ j => exact congrArg (· + 1) (nodup_at h.2 (i := i) (j := j) (by simpa using ha) (by simpa using hb) hf)
theorem map_block {κ : Kap} {M : Mem} {w : World} (h : MRel κ M w) {n b : Nat} {kk : Option IntKind} {l : List (Key × Nat × AV)} {clock : Nat} (hM : M n = some (.map kk l clock)) (hb : κ.loc n = some (some b)) : ∃ es, w.heap[b]? = some (.map es clock) ∧ MapRel κ kk l es clock := by
  obtain ⟨b', es, h1, h2, h3⟩ := h.row n _ hM
  rw [hb] at h1; cases h1
  exact ⟨es, h2, h3⟩

theorem ptab_block {κ : Kap} {M : Mem} {w : World} (h : MRel κ M w) {n b : Nat} {xs : List (Int × Int)} (hM : M n = some (.ptab xs)) (hb : κ.loc n = some (some b)) : ∃ l clock es, PT xs l ∧ w.heap[b]? = some (.map es clock) ∧ MapRel κ (some .i64) l es clock := by
  obtain ⟨l, clock, b', es, h0, h1, h2, h3⟩ := h.row n _ hM
  rw [hb] at h1; cases h1
  exact ⟨l, clock, es, h0, h2, h3⟩
theorem makeMapE_ok {R : Type} {o : Oper} {t : TypeId} {rv : Option Operand} (ho : o.op = .makeMap t rv) {E : Env} {st : AS} {k : Ent → Option R} {r : R} (h : makeMapE P t rv E st k = some r) :
    ∃ e, k e = some r ∧ OpOk P o E st.next (find st.mem) e := by
  unfold makeMapE at h
  split at h
  · rename_i kk key elem ht
    obtain ⟨ht1, ht2⟩ := mapTy_ok ht
    have fin : k ⟨.mp st.next, [(st.next, some (.map kk [] 0))], 1, []⟩ = some r → (∀ (κ : Kap) (a : Act) (w : World), AOn κ o E a → (execOp a.eval o).run P w = .ok (.value (.map (some w.heap.size))) (w.alloc (.map #[] 0))) → ∃ e, k e = some r ∧ OpOk P o E st.next (find st.mem) e := by
      intro hk hrun
      refine ⟨_, hk, fun κ a w M K Q hA hR hrd hfr hK => ?_⟩
      obtain ⟨h1, h2, h3⟩ := hR.new (s := 0) (hfr st.next (Nat.le_refl _) (Nat.lt_succ_self _)) (r := .map kk [] 0) (o := .map #[] 0) ⟨w.heap.size, #[], Kap.at_same, alloc_new, trivial, stamped_empty 0⟩
      refine wp_value (hrun κ a w hA) (hK _ _ _ h1 (fun n hn => ?_) (.mp _ w.heap.size Kap.at_same .nil) h2 h3)
      exact Kap.at_ne (name_ne hn)
    dsimp only at h
    split at h
    · refine fin h fun κ a w hA => ?_
      simp only [execOp, ho]
      refine run_value ?_
      simp [Instr.makeMap, Result.andThen]
    · rename_i x
      split at h
      · rename_i q m hx
        refine fin h fun κ a w hA => ?_
        have hp := hA x (by rw [ho]; simp [Op.operands]) _ hx
        generalize he : a.eval x = ev at hp
        cases hp
        simp only [execOp, ho, Option.map_some]
        refine run_value ?_
        simp [Instr.makeMap, Go.run_underlying ht1, asInt, asIntOf, Result.andThen, he]
      · cases h
  · cases h

theorem foundK_ok {R : Type} {ok : Bool} {rd : List Nat} {k : Ent → Option R} {v : AV} {b : Bool} {r : R} (h : foundK ok rd k v b = some r) : isArr v = false ∧ k ⟨if ok then .tup [v, .bool b] else v, [], 0, rd⟩ = some r := by
  unfold foundK at h
  obtain ⟨h1, h2⟩ := cond_some' h
  refine ⟨h1, ?_⟩
  cases ok <;> exact h2
theorem found_rel {κ : Kap} {v : AV} {y : Value} (b ok : Bool) (hv : VRel κ v y) (_ha : isArr v = false) : VRel κ (if ok then .tup [v, .bool b] else v) (if ok then .tuple #[y, .bool b] else y) := by
  cases ok with
  | false => exact hv
  | true => exact .tup [v, .bool b] [y, .bool b] (hv.append (.bool b .nil)) .nil
theorem lookupE_ok (hZ : ZerosOk P) {R : Type} {o : Oper} {t : TypeId} {x ix : Operand} {ok : Bool} (ho : o.op = .lookup t x ix ok) {E : Env} {m : List (Nat × Row)} {k : Ent → Option R} {r : R} (h : lookupE P t x ix ok E m k = some r) :
    ∃ v rd, k ⟨v, [], 0, rd⟩ = some r ∧ StillOk P o E (find m) v rd := by
  have hmx : x ∈ o.op.operands := by rw [ho]; simp [Op.operands]
  have hmi : ix ∈ o.op.operands := by rw [ho]; simp [Op.operands]
  unfold lookupE at h
  split at h
  · rename_i kk key elem ht
    obtain ⟨ht1, ht2⟩ := mapTy_ok ht
    split at h
    · rename_i iv hiv
      split at h
      · rename_i K hK
        have hkey : ∀ (κ : Kap) (a : Act), AOn κ o E a → KeyV kk K (a.eval ix) := fun κ a hA => keyOf_ok hK (hA ix hmi _ hiv)
        split at h
        · rename_i n hx
          split at h
          · rename_i kk' l clock hf
            obtain ⟨hkk, h'⟩ := cond_some h
            have hkk2 := of_decide_eq_true hkk
            subst hkk2
            have hblk : ∀ (κ : Kap) (a : Act) (w : World) (M : Mem), AOn κ o E a → MRel κ M w → (∀ i ∈ [n], M i = find m i) → ∃ b es, a.eval x = .map (some b) ∧ w.heap[b]? = some (.map es clock) ∧ MapRel κ kk' l es clock := by
              intro κ a w M hA hR hrd
              have hp := hA x hmx _ hx
              generalize a.eval x = ev at hp
              cases hp with
              | mp _ b h1 _ =>
                obtain ⟨es, h2, h3⟩ := map_block hR ((hrd n (List.mem_singleton.2 rfl)).trans hf) h1
                exact ⟨b, es, rfl, h2, h3⟩
            rcases lookK_ok h' with ⟨h1, h2⟩ | ⟨v, h1, h2⟩
            · split at h1
              · rename_i z hz
                obtain ⟨hza, zv, hzq, hzr⟩ := zeroAV_ok hZ hz
                obtain ⟨hna, h1⟩ := foundK_ok h1
                refine ⟨_, _, h1, fun κ a w M hA hR hrd => ⟨_, found_rel false ok (hzr κ) hna, ?_⟩⟩
                obtain ⟨b, es, he, hb, hm⟩ := hblk κ a w M hA hR hrd
                have hk := hkey κ a hA
                have hno := h2 κ kk' es.toList _ hm.ent hk
                simp only [execOp, ho]
                refine run_value ?_
                rw [he]
                rcases findNow_spec (keyV_isKey hk) es.toList 0 (Ents.isKey hm.ent) with ⟨g1, _⟩ | ⟨j, e, _, g2, g3⟩
                · have hzrun : (zeroValue elem).run P w = .ok zv w := qrun_run _ hzq w
                  cases ok <;> simp [Instr.lookup, Go.run_underlying ht1, MapKept.run_getObj_map hb, MapKept.run_checkKey ht2 (keyV_isKey hk), MapKept.run_findKey ht2 g1, hzrun, Result.andThen]
                · exact absurd g3 (hno e (List.mem_of_getElem? g2))
              · cases h1
            · obtain ⟨hna, h1⟩ := foundK_ok h1
              refine ⟨_, _, h1, fun κ a w M hA hR hrd => ?_⟩
              obtain ⟨b, es, he, hb, hm⟩ := hblk κ a w M hA hR hrd
              have hk := hkey κ a hA
              obtain ⟨j, e, g1, g2, g3⟩ := h2 κ kk' es.toList _ hm.ent hk
              refine ⟨_, found_rel true ok (g3.mono (Kap.nl_le κ)) hna, ?_⟩
              simp only [execOp, ho]
              refine run_value ?_
              rw [he]
              rcases findNow_spec (keyV_isKey hk) es.toList 0 (Ents.isKey hm.ent) with ⟨_, q2⟩ | ⟨j', e', q1, q2, q3⟩
              · exact absurd g2 (q2 e (List.mem_of_getElem? g1))
              · have : j = j' := nodup_at hm.stamped.2.2 g1 q2 (g2.trans q3.symm)
                subst this
                rw [g1] at q2; cases q2
                cases ok <;> simp [Instr.lookup, Go.run_underlying ht1, MapKept.run_getObj_map hb, MapKept.run_checkKey ht2 (keyV_isKey hk), MapKept.run_findKey ht2 q1, Result.andThen]
          · rename_i xs hf
            split at h
            · rename_i id
              obtain ⟨hkk, h'⟩ := cond_some h
              have hkk2 := of_decide_eq_true hkk
              subst hkk2
              have hblk : ∀ (κ : Kap) (a : Act) (w : World) (M : Mem), AOn κ o E a → MRel κ M w → (∀ i ∈ [n], M i = find m i) → ∃ b l clock es, a.eval x = .map (some b) ∧ PT xs l ∧ w.heap[b]? = some (.map es clock) ∧ MapRel κ (some .i64) l es clock := by
                intro κ a w M hA hR hrd
                have hp := hA x hmx _ hx
                generalize a.eval x = ev at hp
                cases hp with
                | mp _ b h1 _ =>
                  obtain ⟨l, clock, es, h0, h2, h3⟩ := ptab_block hR ((hrd n (List.mem_singleton.2 rfl)).trans hf) h1
                  exact ⟨b, l, clock, es, rfl, h0, h2, h3⟩
              have hfound : ∀ (κ : Kap) (a : Act) (w : World) (M : Mem), hasId id xs = true → isArr (.int .i64 (bytF id xs)) = false → AOn κ o E a → MRel κ M w → (∀ i ∈ [n], M i = find m i) → ∃ u, VRel κ (if ok then .tup [.int .i64 (bytF id xs), .bool true] else .int .i64 (bytF id xs)) u ∧ (execOp a.eval o).run P w = .ok (.value u) w := by
                intro κ a w M hhas hna hA hR hrd
                obtain ⟨b, l, clock, es, he, h0, hb, hm⟩ := hblk κ a w M hA hR hrd
                have hlk := pt_look id h0
                rw [hhas, cond_true] at hlk
                have hk := hkey κ a hA
                rcases lookK_ok hlk with ⟨h1, _⟩ | ⟨v, h1, h2⟩
                · cases h1
                · simp only [Option.some.injEq] at h1
                  subst h1
                  obtain ⟨j, e, g1, g2, g3⟩ := h2 κ _ es.toList _ hm.ent hk
                  refine ⟨_, found_rel true ok (g3.mono (Kap.nl_le κ)) hna, ?_⟩
                  simp only [execOp, ho]
                  refine run_value ?_
                  rw [he]
                  rcases findNow_spec (keyV_isKey hk) es.toList 0 (Ents.isKey hm.ent) with ⟨_, q2⟩ | ⟨j', e', q1, q2, q3⟩
                  · exact absurd g2 (q2 e (List.mem_of_getElem? g1))
                  · have : j = j' := nodup_at hm.stamped.2.2 g1 q2 (g2.trans q3.symm)
                    subst this
                    rw [g1] at q2; cases q2
                    cases ok <;> simp [Instr.lookup, Go.run_underlying ht1, MapKept.run_getObj_map hb, MapKept.run_checkKey ht2 (keyV_isKey hk), MapKept.run_findKey ht2 q1, Result.andThen]
              have hmiss : ∀ (κ : Kap) (a : Act) (w : World) (M : Mem) (z : AV), zeroAV P elem = some z → hasId id xs = false → isArr z = false → AOn κ o E a → MRel κ M w → (∀ i ∈ [n], M i = find m i) → ∃ u, VRel κ (if ok then .tup [z, .bool false] else z) u ∧ (execOp a.eval o).run P w = .ok (.value u) w := by
                intro κ a w M z hz hhas hna hA hR hrd
                obtain ⟨hza, zv, hzq, hzr⟩ := zeroAV_ok hZ hz
                obtain ⟨b, l, clock, es, he, h0, hb, hm⟩ := hblk κ a w M hA hR hrd
                have hlk := pt_look id h0
                rw [hhas, cond_false] at hlk
                have hk := hkey κ a hA
                rcases lookK_ok hlk with ⟨_, h2⟩ | ⟨v, h1, _⟩
                · have hno := h2 κ _ es.toList _ hm.ent hk
                  refine ⟨_, found_rel false ok (hzr κ) hna, ?_⟩
                  simp only [execOp, ho]
                  refine run_value ?_
                  rw [he]
                  rcases findNow_spec (keyV_isKey hk) es.toList 0 (Ents.isKey hm.ent) with ⟨g1, _⟩ | ⟨j, e, _, g2, g3⟩
                  · have hzrun : (zeroValue elem).run P w = .ok zv w := qrun_run _ hzq w
                    cases ok <;> simp [Instr.lookup, Go.run_underlying ht1, MapKept.run_getObj_map hb, MapKept.run_checkKey ht2 (keyV_isKey hk), MapKept.run_findKey ht2 g1, hzrun, Result.andThen]
                  · exact absurd g3 (hno e (List.mem_of_getElem? g2))
                · cases h1
              cases hm : (!ok && zeroI (zeroAV P elem)) with
              | true =>
                rw [hm, cond_true] at h'
                simp only [Bool.and_eq_true, Bool.not_eq_true'] at hm
                obtain ⟨hok, hz0⟩ := hm
                subst hok
                have hz := zeroI_eq hz0
                obtain ⟨hna, h1⟩ := foundK_ok h'
                refine ⟨_, _, h1, fun κ a w M hA hR hrd => ?_⟩
                cases hh : hasId id xs with
                | true => exact hfound κ a w M hh hna hA hR hrd
                | false => rw [bytF_none id xs hh]; exact hmiss κ a w M _ hz hh rfl hA hR hrd
              | false =>
                rw [hm, cond_false] at h'
                cases hh : hasId id xs with
                | true =>
                  rw [hh, cond_true] at h'
                  obtain ⟨hna, h1⟩ := foundK_ok h'
                  exact ⟨_, _, h1, fun κ a w M hA hR hrd => hfound κ a w M hh hna hA hR hrd⟩
                | false =>
                  rw [hh, cond_false] at h'
                  split at h'
                  · rename_i z hz
                    obtain ⟨hna, h1⟩ := foundK_ok h'
                    exact ⟨_, _, h1, fun κ a w M hA hR hrd => hmiss κ a w M z hz hh hna hA hR hrd⟩
                  · cases h'
            · cases h
          · cases h
        · rename_i hx
          split at h
          · rename_i z hz
            obtain ⟨hza, zv, hzq, hzr⟩ := zeroAV_ok hZ hz
            obtain ⟨hna, h1⟩ := foundK_ok h
            refine ⟨_, _, h1, fun κ a w M hA hR hrd => ⟨_, found_rel false ok (hzr κ) hna, ?_⟩⟩
            have hk := hkey κ a hA
            have he : a.eval x = .map none := by
              have hp := hA x hmx _ hx
              generalize a.eval x = ev at hp
              cases hp; rfl
            simp only [execOp, ho]
            refine run_value ?_
            rw [he]
            have hzrun : (zeroValue elem).run P w = .ok zv w := qrun_run _ hzq w
            have g1 : Instr.findNow (kkDesc kk) (a.eval ix) [] 0 = some none := rfl
            cases ok <;> simp [Instr.lookup, Go.run_underlying ht1, MapKept.run_checkKey ht2 (keyV_isKey hk), MapKept.run_findKey ht2 g1, hzrun, Result.andThen]
          · cases h
        · cases h
      · cases h
    · cases h
  · cases h

theorem shedVK_ok {R : Type} {m : List (Nat × Row)} {x : AV} {k : AV → List Nat → Option R} {r : R} (h : shedVK m x k = some r) :
    ∃ y ns, k y ns = some r ∧ ∀ (κ : Kap) (w : World) (M : Mem), MRel κ M w → (∀ n ∈ ns, ∀ c o t, find m n = some (.cells c o t) → M n = some (.cells c false t)) → ∀ z, VRel κ x z → VRel κ.nl y z := by
  unfold shedVK at h
  split at h
  · rename_i c
    obtain ⟨ys, ns, h1, _, _, h4⟩ := shedK_ok _ h
    refine ⟨_, _, h1, fun κ w M hR hf z hz => ?_⟩
    cases hz with
    | agg _ zs hc _ => exact .agg ys zs (h4 κ w M hR hf zs hc) .nil
  · obtain ⟨y, ns, h1, _, _, h4⟩ := shed1K_ok h
    exact ⟨y, ns, h1, fun κ w M hR hf z hz => h4 κ w M hR hf [z] hz⟩

theorem mapUpdateE_ok {R : Type} {o : Oper} {t : TypeId} {x ix y : Operand} (ho : o.op = .mapUpdate t x ix y ∨ o.op = .insert t x ix y) {E : Env} {m : List (Nat × Row)} {k : Ent → Option R} {r : R} (h : mapUpdateE P t x ix y E m k = some r) {next : Nat} :
    ∃ e, k e = some r ∧ OpOk P o E next (find m) e := by
  have hmx : x ∈ o.op.operands := by rcases ho with ho | ho <;> (rw [ho]; simp [Op.operands])
  have hmi : ix ∈ o.op.operands := by rcases ho with ho | ho <;> (rw [ho]; simp [Op.operands])
  have hmy : y ∈ o.op.operands := by rcases ho with ho | ho <;> (rw [ho]; simp [Op.operands])
  have hex : ∀ ρ, execOp ρ o = (do Instr.mapUpdate t (ρ x) (ρ ix) (ρ y); pure .skip : Sem Next) := by rcases ho with ho | ho <;> (intro ρ; simp only [execOp, ho])
  unfold mapUpdateE at h
  split at h
  · rename_i kk key elem ht
    obtain ⟨ht1, ht2⟩ := mapTy_ok ht
    split at h
    · rename_i iv hiv
      split at h
      · rename_i K hK
        split at h
        · rename_i n hx
          split at h
          · rename_i kk' l clock hf
            split at h
            · rename_i v hy
              obtain ⟨hkk, h'⟩ := cond_some h
              have hkk2 := of_decide_eq_true hkk
              subst hkk2
              obtain ⟨v', ns, h1, hshed⟩ := shedVK_ok h'
              obtain ⟨hmem, h2⟩ := cond_some' h1
              obtain ⟨l', c', h3, hput⟩ := putMapK_ok h2
              refine ⟨_, h3, fun κ a w M Kk Q hA hR hrd _ hKk => ?_⟩
              have hk := keyOf_ok hK (hA ix hmi _ hiv)
              have hv := hA y hmy _ hy
              have hM : M n = some (.map kk' l clock) := (hrd n (List.mem_cons_self ..)).trans hf
              obtain ⟨κ', a1, a2, a3, a4, a5, a6⟩ := MRel.freezeAll (m := m) ns hR fun n' hn' c0 o0 t0 h0 => .inl (by rw [hrd n' (List.mem_cons_of_mem _ hn')]; exact h0)
              have hM' : (M.sets (frz m ns)) n = some (.map kk' l clock) := by rw [a5 n (memB_false hmem)]; exact hM
              have hvn := hshed κ' w _ a3 (fun n' hn' c0 o0 t0 h0 => a6 n' hn' c0 o0 t0 h0) _ (hv.mono a1)
              have hp := hA x hmx _ hx
              generalize hea : a.eval x = ev at hp
              cases hp with
              | mp _ b g0 _ =>
                have hloc : κ'.loc n = some (some b) := by rw [a2]; exact g0
                obtain ⟨es, hb, hm⟩ := map_block a3 hM' hloc
                have hrow : ∀ es', MapRel κ' kk' l' es' c' → RowRel κ' (World.putBlk w b (.map es' c')) n (.map kk' l' c') := fun es' h => ⟨b, es', hloc, putBlk_same hb, h⟩
                have fin : ∀ es', MapRel κ' kk' l' es' c' → (execOp a.eval o).run P w = .ok .skip (World.putBlk w b (.map es' c')) → o.wp P a w Kk Q := by
                  intro es' hmr hrun
                  obtain ⟨k1, k2⟩ := a3.put hM' rfl hloc (hrow es' hmr)
                  refine wp_skip' hrun (hKk κ' undef _ a1 (fun n _ => by rw [a2]) (.raw undef .nil) ?_ ?_)
                  · show MRel κ' (M.sets (frz m ns ++ [(n, some (.map kk' l' c'))])) _
                    rw [Mem.sets_append]; exact k1
                  · show Fr κ M w κ' (M.sets (frz m ns ++ [(n, some (.map kk' l' c'))])) _
                    rw [Mem.sets_append]; exact a4.trans k2
                rcases findNow_spec (keyV_isKey hk) es.toList 0 (Ents.isKey hm.ent) with ⟨q1, q2⟩ | ⟨j, e, q1, q2, q3⟩
                · rcases hput κ' kk' es.toList _ _ hm.ent hk hvn with ⟨_, p2, p3⟩ | ⟨j', e', p1, p2, _⟩
                  · subst p3
                    refine fin (es.push { key := a.eval ix, val := a.eval y, born := clock }) ⟨by simpa using p2, stamped_push hm.stamped q2⟩ ?_
                    rw [hex]
                    refine run_skip ?_
                    rw [hea]
                    simp [Instr.mapUpdate, Go.run_underlying ht1, MapKept.run_getObj_map hb, MapKept.run_checkKey ht2 (keyV_isKey hk), MapKept.run_findKey ht2 q1, MapKept.run_setObj_map _ hb, Result.andThen, World.putBlk]
                  · exact absurd p2 (q2 e' (List.mem_of_getElem? p1))
                · have hj : es[j]? = some e := by simpa using q2
                  rcases hput κ' kk' es.toList _ _ hm.ent hk hvn with ⟨p1, _⟩ | ⟨j', e', p1, p2, p3, p4⟩
                  · exact absurd q3 (p1 e (List.mem_of_getElem? q2))
                  · have : j' = j := nodup_at hm.stamped.2.2 p1 q2 (p2.trans q3.symm)
                    subst this
                    subst p4
                    have hkeym : ∀ e0, es[j']? = some e0 → ({ e0 with key := a.eval ix, val := a.eval y } : MapEntry).key = e0.key := fun e0 he0 => by rw [hj] at he0; cases he0; exact q3.symm
                    have hset : (es.modify j' fun e => { e with key := a.eval ix, val := a.eval y }).toList = es.toList.set j' ⟨a.eval ix, a.eval y, e.born⟩ := by
                      apply List.ext_getElem?
                      intro i
                      simp only [Array.getElem?_toList, Array.getElem?_modify]
                      by_cases hi : j' = i
                      · subst hi
                        have hlt := (List.getElem?_eq_some_iff.1 q2).1
                        rw [if_pos rfl, hj, List.getElem?_set_self hlt]; rfl
                      · rw [if_neg hi, List.getElem?_set_ne hi]; simp
                    refine fin (es.modify j' fun e => { e with key := a.eval ix, val := a.eval y }) ⟨by rw [hset]; rw [p1] at q2; cases q2; exact p3, stamped_modify hm.stamped _ _ (fun _ _ => rfl) (fun e' _ he' => hkeym e' he')⟩ ?_
                    rw [hex]
                    refine run_skip ?_
                    rw [hea]
                    simp [Instr.mapUpdate, Go.run_underlying ht1, MapKept.run_getObj_map hb, MapKept.run_checkKey ht2 (keyV_isKey hk), MapKept.run_findKey ht2 q1, hj, q3, MapKept.run_keyThatStays (keyV_isKey hk), MapKept.run_setObj_map _ hb, Result.andThen, World.putBlk]
            · cases h
          · rename_i xs hf
            split at h
            · rename_i id
              split at h
              · rename_i z hy
                obtain ⟨hkk, h'⟩ := cond_some h
                have hkk2 := of_decide_eq_true hkk
                subst hkk2
                refine ⟨_, h', fun κ a w M Kk Q hA hR hrd _ hKk => ?_⟩
                have hk := keyOf_ok hK (hA ix hmi _ hiv)
                have hv := hA y hmy _ hy
                have hM : M n = some (.ptab xs) := (hrd n (List.mem_singleton.2 rfl)).trans hf
                have hp := hA x hmx _ hx
                generalize hea : a.eval x = ev at hp
                cases hp with
                | mp _ b g0 _ =>
                  obtain ⟨l, clock, es, hpt, hb, hm⟩ := ptab_block hR hM g0
                  obtain ⟨l', c', hpt', hput1, _⟩ := pt_put id z clock hpt
                  have hvn : VRel κ.nl (.int .i64 z) (a.eval y) := by
                    generalize a.eval y = yv at hv
                    cases hv; exact .int _ _ .nil
                  have fin : ∀ es', MapRel κ (some .i64) l' es' c' → (execOp a.eval o).run P w = .ok .skip (World.putBlk w b (.map es' c')) → o.wp P a w Kk Q := by
                    intro es' hmr hrun
                    obtain ⟨k1, k2⟩ := hR.put (o := .map es' c') hM rfl g0 (r' := .ptab (putP id z xs)) ⟨l', c', b, es', hpt', g0, putBlk_same hb, hmr⟩
                    exact wp_skip' hrun (hKk κ undef _ (Kap.le_refl κ) (fun _ _ => rfl) (.raw undef .nil) k1 k2)
                  obtain ⟨l2, c2, h3, hput⟩ := putMapK_ok hput1
                  simp only [Option.some.injEq, Prod.mk.injEq] at h3
                  obtain ⟨rfl, rfl⟩ := h3
                  rcases findNow_spec (keyV_isKey hk) es.toList 0 (Ents.isKey hm.ent) with ⟨q1, q2⟩ | ⟨j, e, q1, q2, q3⟩
                  · rcases hput κ _ es.toList _ _ hm.ent hk hvn with ⟨_, p2, p3⟩ | ⟨j', e', p1, p2, _⟩
                    · subst p3
                      refine fin (es.push { key := a.eval ix, val := a.eval y, born := clock }) ⟨by simpa using p2, stamped_push hm.stamped q2⟩ ?_
                      rw [hex]
                      refine run_skip ?_
                      rw [hea]
                      simp [Instr.mapUpdate, Go.run_underlying ht1, MapKept.run_getObj_map hb, MapKept.run_checkKey ht2 (keyV_isKey hk), MapKept.run_findKey ht2 q1, MapKept.run_setObj_map _ hb, Result.andThen, World.putBlk]
                    · exact absurd p2 (q2 e' (List.mem_of_getElem? p1))
                  · have hj : es[j]? = some e := by simpa using q2
                    rcases hput κ _ es.toList _ _ hm.ent hk hvn with ⟨p1, _⟩ | ⟨j', e', p1, p2, p3, p4⟩
                    · exact absurd q3 (p1 e (List.mem_of_getElem? q2))
                    · have : j' = j := nodup_at hm.stamped.2.2 p1 q2 (p2.trans q3.symm)
                      subst this
                      subst p4
                      have hkeym : ∀ e0, es[j']? = some e0 → ({ e0 with key := a.eval ix, val := a.eval y } : MapEntry).key = e0.key := fun e0 he0 => by rw [hj] at he0; cases he0; exact q3.symm
                      have hset : (es.modify j' fun e => { e with key := a.eval ix, val := a.eval y }).toList = es.toList.set j' ⟨a.eval ix, a.eval y, e.born⟩ := by
                        apply List.ext_getElem?
                        intro i
                        simp only [Array.getElem?_toList, Array.getElem?_modify]
                        by_cases hi : j' = i
                        · subst hi
                          have hlt := (List.getElem?_eq_some_iff.1 q2).1
                          rw [if_pos rfl, hj, List.getElem?_set_self hlt]; rfl
                        · rw [if_neg hi, List.getElem?_set_ne hi]; simp
                      refine fin (es.modify j' fun e => { e with key := a.eval ix, val := a.eval y }) ⟨by rw [hset]; rw [p1] at q2; cases q2; exact p3, stamped_modify hm.stamped _ _ (fun _ _ => rfl) (fun e' _ he' => hkeym e' he')⟩ ?_
                      rw [hex]
                      refine run_skip ?_
                      rw [hea]
                      simp [Instr.mapUpdate, Go.run_underlying ht1, MapKept.run_getObj_map hb, MapKept.run_checkKey ht2 (keyV_isKey hk), MapKept.run_findKey ht2 q1, hj, q3, MapKept.run_keyThatStays (keyV_isKey hk), MapKept.run_setObj_map _ hb, Result.andThen, World.putBlk]
              · cases h
            · cases h
          · cases h
        · cases h
      · cases h
    · cases h
  · cases h

theorem deleteE_ok {R : Type} {o : Oper} {c : Call} {x ix : Operand} (ho : o.op = .call c) (hc : c.callee = .builtin .delete) (hx0 : c.args.toList = [x, ix]) {t tx : TypeId} (ht0 : c.argTypes.toList = [t, tx]) {E : Env} {m : List (Nat × Row)} {k : Ent → Option R} {r : R} (h : deleteE P t x ix E m k = some r) {next : Nat} :
    ∃ e, k e = some r ∧ OpOk P o E next (find m) e := by
  have e1 : c.args = #[x, ix] := by apply Array.ext'; simpa using hx0
  have e2 : c.argTypes = #[t, tx] := by apply Array.ext'; simpa using ht0
  have hmx : x ∈ o.op.operands := by rw [ho]; simp [Op.operands, Call.operands, hc, e1]
  have hmi : ix ∈ o.op.operands := by rw [ho]; simp [Op.operands, Call.operands, hc, e1]
  have callRun : ∀ {a : Act} {w w' : World} {v : Value}, (Builtin.delete_ #[t, tx] o.type #[a.eval x, a.eval ix]).run P w = .ok v w' → (execOp a.eval o).run P w = .ok (.value v) w' := by
    intro a w w' v h
    simp only [execOp, ho]
    unfold resolve
    rw [hc, e1, e2]
    refine (run_bind_ok (a := ⟨.builtin .delete #[t, tx] o.type _, #[a.eval x, a.eval ix]⟩) (w' := w) (by simp; rfl)).trans ?_
    unfold invoke builtin
    exact run_value h
  unfold deleteE at h
  split at h
  · rename_i kk key elem ht
    obtain ⟨ht1, ht2⟩ := mapTy_ok ht
    split at h
    · rename_i iv hiv
      split at h
      · rename_i K hK
        split at h
        · rename_i n hx
          split at h
          · rename_i kk' l clock hf
            obtain ⟨hkk, h'⟩ := cond_some h
            have hkk2 := of_decide_eq_true hkk
            subst hkk2
            obtain ⟨l', h3, hdel⟩ := delMapK_ok h'
            refine ⟨_, h3, fun κ a w M Kk Q hA hR hrd _ hKk => ?_⟩
            have hk := keyOf_ok hK (hA ix hmi _ hiv)
            have hM : M n = some (.map kk' l clock) := (hrd n (List.mem_singleton.2 rfl)).trans hf
            have hp := hA x hmx _ hx
            generalize hea : a.eval x = ev at hp
            cases hp with
            | mp _ b g0 _ =>
              obtain ⟨es, hb, hm⟩ := map_block hR hM g0
              have fin : ∀ es', MapRel κ kk' l' es' clock → (execOp a.eval o).run P w = .ok (.value (.tuple #[])) (World.putBlk w b (.map es' clock)) → o.wp P a w Kk Q := by
                intro es' hmr hrun
                obtain ⟨k1, k2⟩ := hR.put hM rfl g0 (r' := .map kk' l' clock) (o := .map es' clock) ⟨b, es', g0, putBlk_same hb, hmr⟩
                exact wp_value hrun (hKk κ (.tuple #[]) _ (Kap.le_refl κ) (fun _ _ => rfl) (.raw _ .nil) k1 k2)
              rcases findNow_spec (keyV_isKey hk) es.toList 0 (Ents.isKey hm.ent) with ⟨q1, q2⟩ | ⟨j, e, q1, q2, q3⟩
              · rcases hdel κ kk' es.toList _ hm.ent hk with ⟨_, p2⟩ | ⟨j', e', p1, p2, _⟩
                · subst p2
                  refine fin es hm (callRun ?_)
                  rw [hea]
                  simp [Builtin.delete_, Go.run_underlying ht1, MapKept.run_getObj_map hb, MapKept.run_checkKey ht2 (keyV_isKey hk), MapKept.run_findKey ht2 q1, MapKept.run_setObj_map _ hb, Result.andThen, World.putBlk]
                · exact absurd p2 (q2 e' (List.mem_of_getElem? p1))
              · rcases hdel κ kk' es.toList _ hm.ent hk with ⟨p1, _⟩ | ⟨j', e', p1, p2, p3⟩
                · exact absurd q3 (p1 e (List.mem_of_getElem? q2))
                · have : j' = j := nodup_at hm.stamped.2.2 p1 q2 (p2.trans q3.symm)
                  subst this
                  have hlt : j' < es.size := by simpa using (List.getElem?_eq_some_iff.1 q2).1
                  refine fin (es.eraseIdxIfInBounds j') ⟨?_, stamped_erase hm.stamped j'⟩ (callRun ?_)
                  · have : (es.eraseIdxIfInBounds j').toList = es.toList.eraseIdx j' := by
                      unfold Array.eraseIdxIfInBounds
                      rw [dif_pos hlt]; simp
                    rw [this]; exact p3
                  · rw [hea]
                    simp [Builtin.delete_, Go.run_underlying ht1, MapKept.run_getObj_map hb, MapKept.run_checkKey ht2 (keyV_isKey hk), MapKept.run_findKey ht2 q1, MapKept.run_setObj_map _ hb, Result.andThen, World.putBlk]
          · rename_i xs hf
            split at h
            · rename_i id
              obtain ⟨hkk, h'⟩ := cond_some h
              have hkk2 := of_decide_eq_true hkk
              subst hkk2
              refine ⟨_, h', fun κ a w M Kk Q hA hR hrd _ hKk => ?_⟩
              have hk := keyOf_ok hK (hA ix hmi _ hiv)
              have hM : M n = some (.ptab xs) := (hrd n (List.mem_singleton.2 rfl)).trans hf
              have hp := hA x hmx _ hx
              generalize hea : a.eval x = ev at hp
              cases hp with
              | mp _ b g0 _ =>
                obtain ⟨l, clock, es, hpt, hb, hm⟩ := ptab_block hR hM g0
                obtain ⟨l', hpt', hdel1, _⟩ := pt_del id hpt
                obtain ⟨l2, h3, hdel⟩ := delMapK_ok hdel1
                simp only [Option.some.injEq] at h3
                subst h3
                have fin : ∀ es', MapRel κ (some .i64) l2 es' clock → (execOp a.eval o).run P w = .ok (.value (.tuple #[])) (World.putBlk w b (.map es' clock)) → o.wp P a w Kk Q := by
                  intro es' hmr hrun
                  obtain ⟨k1, k2⟩ := hR.put (o := .map es' clock) hM rfl g0 (r' := .ptab (delP id xs)) ⟨l2, clock, b, es', hpt', g0, putBlk_same hb, hmr⟩
                  exact wp_value hrun (hKk κ (.tuple #[]) _ (Kap.le_refl κ) (fun _ _ => rfl) (.raw _ .nil) k1 k2)
                rcases findNow_spec (keyV_isKey hk) es.toList 0 (Ents.isKey hm.ent) with ⟨q1, q2⟩ | ⟨j, e, q1, q2, q3⟩
                · rcases hdel κ _ es.toList _ hm.ent hk with ⟨_, p2⟩ | ⟨j', e', p1, p2, _⟩
                  · subst p2
                    refine fin es hm (callRun ?_)
                    rw [hea]
                    simp [Builtin.delete_, Go.run_underlying ht1, MapKept.run_getObj_map hb, MapKept.run_checkKey ht2 (keyV_isKey hk), MapKept.run_findKey ht2 q1, MapKept.run_setObj_map _ hb, Result.andThen, World.putBlk]
                  · exact absurd p2 (q2 e' (List.mem_of_getElem? p1))
                · rcases hdel κ _ es.toList _ hm.ent hk with ⟨p1, _⟩ | ⟨j', e', p1, p2, p3⟩
                  · exact absurd q3 (p1 e (List.mem_of_getElem? q2))
                  · have : j' = j := nodup_at hm.stamped.2.2 p1 q2 (p2.trans q3.symm)
                    subst this
                    have hlt : j' < es.size := by simpa using (List.getElem?_eq_some_iff.1 q2).1
                    refine fin (es.eraseIdxIfInBounds j') ⟨?_, stamped_erase hm.stamped j'⟩ (callRun ?_)
                    · have : (es.eraseIdxIfInBounds j').toList = es.toList.eraseIdx j' := by
                        unfold Array.eraseIdxIfInBounds
                        rw [dif_pos hlt]; simp
                      rw [this]; exact p3
                    · rw [hea]
                      simp [Builtin.delete_, Go.run_underlying ht1, MapKept.run_getObj_map hb, MapKept.run_checkKey ht2 (keyV_isKey hk), MapKept.run_findKey ht2 q1, MapKept.run_setObj_map _ hb, Result.andThen, World.putBlk]
            · cases h
          · cases h
        · rename_i hx
          refine ⟨_, h, fun κ a w M Kk Q hA hR hrd _ hKk => ?_⟩
          have hk := keyOf_ok hK (hA ix hmi _ hiv)
          have he : a.eval x = .map none := by
            have hp := hA x hmx _ hx
            generalize a.eval x = ev at hp
            cases hp; rfl
          have hrun : (execOp a.eval o).run P w = .ok (.value (.tuple #[])) w := callRun (by
            rw [he]
            simp [Builtin.delete_, Go.run_underlying ht1, MapKept.run_checkKey ht2 (keyV_isKey hk), Result.andThen])
          exact wp_value hrun (hKk κ (.tuple #[]) _ (Kap.le_refl κ) (fun _ _ => rfl) (.raw _ .nil) hR (Fr.refl κ M w))
        · cases h
      · cases h
    · cases h
  · cases h
section
variable {R : Type} (P)
def lenMapE (t : TypeId) (x : Operand) (E : Env) (m : List (Nat × Row)) (k : Ent → Option R) : Option R :=
  match aeval E x with
  | some (.mp n) => match find m n with
    | some (.map _ l _) => match mapTy P t with
      | some _ => k ⟨.int .i64 (l.length : Int), [], 0, [n]⟩
      | none => none
    | _ => none
  | _ => none
end
theorem lenMapE_ok {R : Type} {o : Oper} {c : Call} {x : Operand} (ho : o.op = .call c) (hc : c.callee = .builtin .len) (hx0 : c.args.toList = [x]) {t : TypeId} (ht0 : c.argTypes.toList = [t]) {E : Env} {m : List (Nat × Row)} {k : Ent → Option R} {r : R} (h : lenMapE P t x E m k = some r) :
    ∃ v rd, k ⟨v, [], 0, rd⟩ = some r ∧ StillOk P o E (find m) v rd := by
  have e1 : c.args = #[x] := by apply Array.ext'; simpa using hx0
  have hmx : x ∈ o.op.operands := by rw [ho]; simp [Op.operands, Call.operands, hc, e1]
  unfold lenMapE at h
  split at h
  · rename_i n hx
    split at h
    · rename_i kk l clock hf
      split at h
      · rename_i ty hty
        obtain ⟨kk2, key, elem⟩ := ty
        obtain ⟨ht1, ht2⟩ := mapTy_ok hty
        refine ⟨_, _, h, fun κ a w M hA hR hrd => ⟨_, .int _ _ .nil, lenRun ho hc hx0 ht0 ?_⟩⟩
        have hp := hA x hmx _ hx
        generalize a.eval x = ev at hp
        cases hp with
        | mp _ b h1 _ =>
          obtain ⟨es, h2, h3⟩ := map_block hR ((hrd n (List.mem_singleton.2 rfl)).trans hf) h1
          have hl : es.size = l.length := by have := h3.ent.length; simpa using this
          simp [Builtin.len_, Go.run_underlying ht1, MapKept.run_getObj_map h2, Result.andThen, goInt, hl]
      · cases h
    · cases h
  · cases h
end Go.Sv
namespace Go.Sv
open Go.RowKit
variable {P : Program}

theorem clearE_ok (hZ : ZerosOk P) {R : Type} {o : Oper} {c : Call} {x : Operand} (ho : o.op = .call c) (hc : c.callee = .builtin .clear) (hx0 : c.args.toList = [x]) {t : TypeId} (ht0 : c.argTypes.toList = [t]) {E : Env} {m : List (Nat × Row)} {k : Ent → Option R} {r : R} (h : clearE P t x E m k = some r) {next : Nat} :
    ∃ e, k e = some r ∧ OpOk P o E next (find m) e := by
  have e1 : c.args = #[x] := by apply Array.ext'; simpa using hx0
  have e2 : c.argTypes = #[t] := by apply Array.ext'; simpa using ht0
  have hmx : x ∈ o.op.operands := by rw [ho]; simp [Op.operands, Call.operands, hc, e1]
  have callRun : ∀ {a : Act} {w w' : World} {v : Value}, (Builtin.clear_ #[t] o.type #[a.eval x]).run P w = .ok v w' → (execOp a.eval o).run P w = .ok (.value v) w' := by
    intro a w w' v h
    simp only [execOp, ho]
    unfold resolve
    rw [hc, e1, e2]
    refine (run_bind_ok (a := ⟨.builtin .clear #[t] o.type _, #[a.eval x]⟩) (w' := w) (by simp; rfl)).trans ?_
    unfold invoke builtin
    exact run_value h
  unfold clearE at h
  split at h
  · rename_i e ht
    split at h
    · rename_i it hi
      split at h
      · rename_i z hz
        split at h
        · rename_i zc hzc
          split at h
          · rename_i n o' i W len cap hx
            obtain ⟨hb, h⟩ := cond_some h
            simp only [Bool.and_eq_true] at hb
            have hs1 := Nat.le_of_ble_eq_true hb.1
            have hW := Nat.eq_of_beq_eq_true hb.2.1
            have hcw := Nat.eq_of_beq_eq_true hb.2.2
            obtain ⟨row, h1, h2⟩ := setElsK_ok (P := P) h
            refine ⟨_, h1, fun κ a w M K Q hA hR hrd hfr hK => ?_⟩
            have hzz := zero_of_info hi hz
            obtain ⟨hzs, hzr⟩ := zeros_rel hZ hzc hzz hcw (by omega) len κ
            have hv := hA x hmx _ hx
            have hu : qrun P (underlying t) = some (.slice e) := by simp [underlying, program, bind, Sem.bind, qrun, ht, pure]
            rw [hW] at h2 hv
            rcases h2 κ w M hR (hrd n (List.mem_singleton.2 rfl)) hv (Nat.le_refl _) hzr with ⟨h0, k1, k2⟩ | ⟨b, off, cap', wd', hu', hst, k1, k2⟩
            · subst h0
              refine wp_value (callRun ?_) (hK κ (.tuple #[]) w (Kap.le_refl κ) (fun _ _ => rfl) (.tup [] [] .nil .nil) k1 k2)
              generalize a.eval x = u at hv
              unfold Builtin.clear_
              refine (run_q hu).trans ?_
              cases hv <;> rfl
            · refine wp_value (callRun ?_) (hK κ (.tuple #[]) wd' (Kap.le_refl κ) (fun _ _ => rfl) (.tup [] [] .nil .nil) k1 k2)
              rw [hu']
              unfold Builtin.clear_
              refine (run_q hu).trans ?_
              by_cases h0 : len = 0
              · subst h0
                have : ((Array.range (0 * it.size)).map (z.cells[· % z.cells.size]!)).toList = [] := by simp
                rw [this] at hst
                have : wd' = w := by simp [storeCells, pure] at hst; exact hst.symm
                rw [this]; rfl
              · obtain ⟨j, rfl⟩ : ∃ j, len = j + 1 := ⟨len - 1, by omega⟩
                refine (run_q hzz).trans ?_
                refine (run_bind_ok (a := ()) (w' := wd') ?_).trans rfl
                have : (Builtin.zeroCells z.cells (j + 1)).toList = ((Array.range ((j + 1) * it.size)).map (z.cells[· % z.cells.size]!)).toList := by
                  unfold Builtin.zeroCells; rw [hzs]
                rw [this]
                exact hst
          · cases h
        · cases h
      · cases h
    · cases h
  · cases h


section
variable {R : Type} (P)
/-- An operation that calls no function of the program. -/
def opE (o : Oper) (E : Env) (st : AS) (k : Ent → Option R) : Option R :=
  match o.op with
  | .move x => moveE x E k
  | .assign x => moveE x E k
  | .pick c x y => pickE c x y E k
  | .binOp op t x y _ => binE P o op t x y E k
  | .load t x => loadE P t x E st.mem k
  | .fieldAddr s x f => fieldAddrE P s x f E k
  | .extract x i => extractE x i E k
  | .indexAddr t x y => indexAddrE P t x y E k
  | .store t x y => storeE P t x y E st.mem k
  | .alloc t => allocE P t st k
  | .box _ x => boxE x E st k
  | .build t parts => match P.underlying t with
    | some (.array _ _) => buildArrE P t parts E st.mem k
    | _ => structE P t parts E k
  | .buildSlice t len parts => buildSliceE P t len parts E st k
  | .index t x y => indexE P t x y E k
  | .field t x f => fieldE P t x f E k
  | .slice t x lo hi mx => sliceE P t x lo hi mx E st.mem k
  | .makeSlice t x y => makeSliceE P t x y E st k
  | .nilCheck x => nilCheckE P o x E k
  | .makeInterface t x => makeInterfaceE P t x E k
  | .makeFunc fn first captured => makeFuncE fn first captured E k
  | .makeMap t rv => makeMapE P t rv E st k
  | .lookup t x ix ok => lookupE P t x ix ok E st.mem k
  | .mapUpdate t x ix y => mapUpdateE P t x ix y E st.mem k
  | .insert t x ix y => mapUpdateE P t x ix y E st.mem k
  | .call c => match c.callee with
    | .builtin .delete => match c.args.toList with
      | [x, ix] => match c.argTypes.toList with
        | [t, _] => deleteE P t x ix E st.mem k
        | _ => none
      | _ => none
    | .builtin .len => match c.args.toList with
      | [x] => match c.argTypes.toList with
        | [t] => match aeval E x with
          | some (.mp _) => lenMapE P t x E st.mem k
          | _ => lenE P o t x E k
        | _ => none
      | _ => none
    | .builtin .append => match c.args.toList with
      | [x, y] => match c.argTypes.toList with
        | [t, tx] => appendE P t tx x y E st k
        | _ => none
      | _ => none
    | .builtin .min => minE P o false c.args.toList E k
    | .builtin .max => minE P o true c.args.toList E k
    | .builtin .clear => match c.args.toList with
      | [x] => match c.argTypes.toList with
        | [t] => clearE P t x E st.mem k
        | _ => none
      | _ => none
    | _ => pureE P o E k
  | _ => pureE P o E k
end
theorem opE_ok (hZ : ZerosOk P) (hT : FlatOk P) {R : Type} {o : Oper} {E : Env} {st : AS} {k : Ent → Option R} {r : R} (h : opE P o E st k = some r) :
    ∃ e, k e = some r ∧ OpOk P o E st.next (find st.mem) e := by
  have still : (∃ v, k ⟨v, [], 0, []⟩ = some r ∧ ∀ m, StillOk P o E m v []) → ∃ e, k e = some r ∧ OpOk P o E st.next (find st.mem) e := fun ⟨v, h1, h2⟩ => ⟨_, h1, (h2 _).op⟩
  have look : (∃ v rd, k ⟨v, [], 0, rd⟩ = some r ∧ StillOk P o E (find st.mem) v rd) → ∃ e, k e = some r ∧ OpOk P o E st.next (find st.mem) e := fun ⟨v, rd, h1, h2⟩ => ⟨_, h1, h2.op⟩
  unfold opE at h
  split at h
  · rename_i x ho; exact still (moveE_ok (.inl ho) h)
  · rename_i x ho; exact still (moveE_ok (.inr ho) h)
  · rename_i ho; exact still (pickE_ok ho h)
  · rename_i ho; exact still (binE_ok hT ho h)
  · rename_i ho; exact look (loadE_ok ho h)
  · rename_i ho; exact still (fieldAddrE_ok ho h)
  · rename_i ho; exact still (extractE_ok ho h)
  · rename_i ho; exact still (indexAddrE_ok ho h)
  · rename_i ho; exact storeE_ok ho h
  · rename_i ho; exact allocE_ok hZ ho h
  · rename_i ho; exact boxE_ok ho h
  · rename_i ho
    split at h
    · exact still (buildArrE_ok hZ ho h)
    · exact still (structE_ok hZ ho h)
  · rename_i ho; exact buildSliceE_ok hZ ho h
  · rename_i ho; exact still (indexE_ok ho h)
  · rename_i ho; exact still (fieldE_ok ho h)
  · rename_i ho; exact look (sliceE_ok ho h)
  · rename_i ho; exact makeSliceE_ok hZ ho h
  · rename_i ho; exact still (nilCheckE_ok ho h)
  · rename_i ho; exact still (makeInterfaceE_ok ho h)
  · rename_i ho; exact still (makeFuncE_ok ho h)
  · rename_i ho; exact makeMapE_ok ho h
  · rename_i ho; exact look (lookupE_ok hZ ho h)
  · rename_i ho; exact mapUpdateE_ok (.inl ho) h
  · rename_i ho; exact mapUpdateE_ok (.inr ho) h
  · rename_i c ho
    split at h
    · rename_i hc
      split at h
      · rename_i x ix hx
        split at h
        · rename_i t tx ht; exact deleteE_ok ho hc hx ht h
        · cases h
      · cases h
    · rename_i hc
      split at h
      · rename_i x hx
        split at h
        · rename_i t ht
          split at h
          · exact look (lenMapE_ok ho hc hx ht h)
          · exact still (lenE_ok ho hc hx ht h)
        · cases h
      · cases h
    · rename_i hc
      split at h
      · rename_i x y hx
        split at h
        · rename_i t tx ht; exact appendE_ok hZ ho hc hx ht h
        · cases h
      · cases h
    · rename_i hc; exact still (minE_ok (isMax := false) ho hc h)
    · rename_i hc; exact still (minE_ok (isMax := true) ho hc h)
    · rename_i hc
      split at h
      · rename_i x hx
        split at h
        · rename_i t ht; exact clearE_ok hZ ho hc hx ht h
        · cases h
      · cases h
    · exact still (pureE_ok h)
  · exact still (pureE_ok h)
end Go.Sv
namespace Go.Sv
open Go.RowKit
variable {P : Program}

/-! ### slots, once more -/
structure SRel (κ : Kap) (sz : Nat) (E : Env) (a : Act) : Prop where
  rel : ERel κ E a
  size : sz ≤ a.tmps.size
theorem SRel.mono {κ κ' : Kap} (h : κ.le κ') {sz : Nat} {E : Env} {a : Act} (r : SRel κ sz E a) : SRel κ' sz E a := ⟨r.rel.mono h, r.size⟩
def dstOk (sz : Nat) (d : Option Tmp) : Bool :=
  match d with
  | none => true
  | some d => Nat.blt d sz
def Env.put (E : Env) (d : Option Tmp) (v : AV) : Env :=
  match d with
  | none => E
  | some d => E.set d v
theorem SRel.put {κ : Kap} {sz : Nat} {E : Env} {a : Act} (r : SRel κ sz E a) {d : Option Tmp} (hd : dstOk sz d = true) {v : AV} {v' : Value} (hv : VRel κ v v') : SRel κ sz (E.put d v) (a.put d v') := by
  cases d with
  | none => exact r
  | some d =>
    have hd : d < sz := by simpa [dstOk, Nat.blt_eq] using hd
    have hs := r.size
    exact ⟨r.rel.put (Nat.lt_of_lt_of_le hd hs) hv, by simp [Act.put]; exact hs⟩
section
variable {R : Type}
def putEK (E : Env) (d : Option Tmp) (v : AV) (k : Env → Option R) : Option R :=
  match d with
  | none => k E
  | some d => E.setK d v k
theorem putEK_eq (E : Env) (d : Option Tmp) (v : AV) (k : Env → Option R) : putEK E d v k = k (E.put d v) := by
  cases d with
  | none => rfl
  | some d => exact E.setK_eq d v k
end
/-- What a slot holds may be said again. -/
theorem SRel.again {κ : Kap} {sz : Nat} {E : Env} {a : Act} (r : SRel κ sz E a) {t : Nat} {v : AV} (h : E.get t = v) : SRel κ sz (E.set t v) a := by
  refine ⟨⟨fun t' => ?_, r.rel.defers⟩, r.size⟩
  by_cases e : t' = t
  · subst e
    rcases E.get_set_same t' v with h' | h' <;> rw [h']
    · rw [← h]; exact r.rel.get t'
    · exact vrel_any κ _
  · rw [Env.get_set_ne e]; exact r.rel.get t'

/-! ### memories -/
section
variable {R : Type}
def natK (n : Nat) (k : Nat → Option R) : Option R :=
  match n with
  | 0 => k 0
  | m + 1 => k (m + 1)
theorem natK_eq (n : Nat) (k : Nat → Option R) : natK n k = k n := by cases n <;> rfl
def setRowK : List (Nat × Row) → Nat → Option Row → (List (Nat × Row) → Option R) → Option R
  | [], n, r, k => match r with
    | none => k []
    | some r => k [(n, r)]
  | (i, o) :: t, n, r, k => bif Nat.beq i n then (match r with | none => setRowK t n none k | some r => k ((n, r) :: t)) else setRowK t n r fun t' => k ((i, o) :: t')
def setRowsK : List (Nat × Row) → List (Nat × Option Row) → (List (Nat × Row) → Option R) → Option R
  | m, [], k => k m
  | m, (n, r) :: l, k => setRowK m n r fun m' => setRowsK m' l k
def applyK (st : AS) (e : Ent) (k : AS → Option R) : Option R := natK (st.next + e.nx) fun n => setRowsK st.mem e.eff fun m => k ⟨n, m⟩
theorem setRowK_some {r : R} : ∀ (m : List (Nat × Row)) (n : Nat) (o : Option Row) (k : List (Nat × Row) → Option R), setRowK m n o k = some r → ∃ m', k m' = some r ∧ ∀ x, find m' x = (Mem.set (find m) n o) x
  | [], n, o, k, h => by
    cases o with
    | none => exact ⟨_, h, fun x => by simp [Mem.set, find]⟩
    | some o =>
      refine ⟨_, h, fun x => ?_⟩
      simp only [find, Mem.set]
      by_cases e : x = n
      · subst e; simp
      · rw [beq_false (Ne.symm e), if_neg e]; rfl
  | (i, p) :: t, n, o, k, h => by
    simp only [setRowK] at h
    cases hb : Nat.beq i n with
    | true =>
      rw [hb] at h
      have := Nat.eq_of_beq_eq_true hb
      subst this
      cases o with
      | none =>
        obtain ⟨m', h1, h2⟩ := setRowK_some t i none k h
        refine ⟨m', h1, fun x => ?_⟩
        rw [h2]
        by_cases e : x = i
        · subst e; rw [Mem.set_same, Mem.set_same]
        · rw [Mem.set_ne _ _ e, Mem.set_ne _ _ e]
          simp only [find, beq_false (Ne.symm e), cond_false]
      | some o =>
        refine ⟨_, h, fun x => ?_⟩
        simp only [find]
        by_cases e : x = i
        · subst e; rw [Mem.set_same]; simp
        · rw [Mem.set_ne _ _ e]
          simp only [beq_false (Ne.symm e), cond_false]
    | false =>
      rw [hb] at h
      obtain ⟨t', h1, h2⟩ := setRowK_some t n o _ h
      refine ⟨_, h1, fun x => ?_⟩
      simp only [find]
      have hne : i ≠ n := fun e => by subst e; simp at hb
      by_cases e : x = n
      · subst e
        rw [beq_false hne, cond_false, h2, Mem.set_same, Mem.set_same]
      · rw [Mem.set_ne _ _ e]
        cases Nat.beq i x
        · rw [cond_false, cond_false, h2, Mem.set_ne _ _ e]
        · rfl
theorem setRowsK_some {r : R} : ∀ (l : List (Nat × Option Row)) (m : List (Nat × Row)) (k : List (Nat × Row) → Option R), setRowsK m l k = some r → ∃ m', k m' = some r ∧ find m' = (Mem.sets (find m) l)
  | [], m, k, h => ⟨m, by cases m <;> exact h, rfl⟩
  | (n, o) :: l, m, k, h => by
    have h' : setRowK m n o (fun m' => setRowsK m' l k) = some r := by cases m <;> exact h
    obtain ⟨m1, h1, h2⟩ := setRowK_some m n o _ h'
    obtain ⟨m2, h3, h4⟩ := setRowsK_some l m1 k h1
    exact ⟨m2, h3, by rw [h4, funext h2]; rfl⟩
theorem applyK_some {st : AS} {e : Ent} {k : AS → Option R} {r : R} (h : applyK st e k = some r) : ∃ st', k st' = some r ∧ st'.next = st.next + e.nx ∧ find st'.mem = Mem.sets (find st.mem) e.eff := by
  unfold applyK at h
  rw [natK_eq] at h
  obtain ⟨m', h1, h2⟩ := setRowsK_some _ _ _ h
  exact ⟨_, h1, rfl, h2⟩
end

/-! ### guards -/
def wantE {R : Type} (ops : Array Oper) (o : Oper) (E : Env) (kw ks : Env → Option R) : Option R :=
  match o.guard with
  | none => kw E
  | some (j, want) =>
    match (ops[j]?).bind (·.dst) with
    | none => ks E
    | some t =>
      match E.get t with
      | .bool b => bif b then E.setK t (.bool true) fun E => bif want then kw E else ks E
        else E.setK t (.bool false) fun E => bif want then ks E else kw E
      | .raw (.tuple _) => ks E
      | _ => none
theorem wantE_ok {R : Type} {ops : Array Oper} {o : Oper} {E : Env} {kw ks : Env → Option R} {r : R} (h : wantE ops o E kw ks = some r) :
    ∃ E' b, (if b = true then kw E' else ks E') = some r ∧ ∀ (κ : Kap) (sz : Nat) (a : Act), SRel κ sz E a → Region.wanted o (yielded ops a.tmps) = b ∧ SRel κ sz E' a := by
  unfold wantE at h
  split at h
  · rename_i hg
    exact ⟨E, true, by simpa using h, fun κ sz a hA => ⟨by unfold Region.wanted; rw [hg], hA⟩⟩
  · rename_i j want hg
    split at h
    · rename_i hd
      refine ⟨E, false, by simpa using h, fun κ sz a hA => ⟨?_, hA⟩⟩
      unfold Region.wanted yielded
      rw [hg]
      dsimp only
      rw [hd]; rfl
    · rename_i t hd
      have key : ∀ (a : Act), Region.wanted o (yielded ops a.tmps) = ((match a.tmps[t]? with | some (.bool b) => some b | _ => none) == some want) := by
        intro a
        unfold Region.wanted yielded
        rw [hg]
        dsimp only
        rw [hd]; rfl
      split at h
      · rename_i b hb
        have hval : ∀ (κ : Kap) (sz : Nat) (a : Act), SRel κ sz E a → a.tmps[t]? = some (.bool b) := by
          intro κ sz a hA
          have := hA.rel.get t
          rw [hb] at this
          have := bool_of this
          rw [Array.getD_eq_getD_getElem?] at this
          cases he : a.tmps[t]? with
          | none => rw [he] at this; simp [undef] at this
          | some v => rw [he] at this; simpa using this
        cases b with
        | true =>
          simp only [cond_true, Env.setK_eq] at h
          refine ⟨E.set t (.bool true), want, ?_, fun κ sz a hA => ⟨?_, hA.again hb⟩⟩
          · cases want <;> simpa using h
          · rw [key, hval κ sz a hA]; cases want <;> rfl
        | false =>
          simp only [cond_false, Env.setK_eq] at h
          refine ⟨E.set t (.bool false), !want, ?_, fun κ sz a hA => ⟨?_, hA.again hb⟩⟩
          · cases want <;> simpa using h
          · rw [key, hval κ sz a hA]; cases want <;> rfl
      · rename_i cs hb
        refine ⟨E, false, by simpa using h, fun κ sz a hA => ⟨?_, hA⟩⟩
        rw [key]
        have := hA.rel.get t
        rw [hb] at this
        have hv : a.tmps.getD t undef = .tuple cs := by
          generalize a.tmps.getD t undef = u at this
          cases this; rfl
        rw [Array.getD_eq_getD_getElem?] at hv
        cases he : a.tmps[t]? with
        | none => rfl
        | some v => rw [he] at hv; simp only [Option.getD_some] at hv; rw [hv]; rfl
      · cases h

/-- Names below a bound are as they were. -/
structure Kap.leN (nb : Nat) (κ κ' : Kap) : Prop where
  loc : ∀ n, n < nb → κ'.loc n = κ.loc n
  st : ∀ b cs, κ.st b = some cs → κ'.st b = some cs
  gh : κ'.gh = κ.gh
  sz : ∀ b s, κ.sz b = some s → κ'.sz b = some s
theorem Kap.leN_refl (nb : Nat) (κ : Kap) : Kap.leN nb κ κ := ⟨fun _ _ => rfl, fun _ _ h => h, rfl, fun _ _ h => h⟩
theorem Kap.leN_trans {nb nb' : Nat} (hn : nb ≤ nb') {a b c : Kap} (h : Kap.leN nb a b) (k : Kap.leN nb' b c) : Kap.leN nb a c :=
  ⟨fun n hn' => (k.loc n (by omega)).trans (h.loc n hn'), fun n x e => k.st n x (h.st n x e), k.gh.trans h.gh, fun n x e => k.sz n x (h.sz n x e)⟩
theorem Kap.leN.mono {nb nb' : Nat} {a b : Kap} (h : Kap.leN nb' a b) (hn : nb ≤ nb') : Kap.leN nb a b := ⟨fun n hn' => h.loc n (by omega), h.st, h.gh, h.sz⟩
theorem Kap.leN.le {nb : Nat} {κ κ' : Kap} (h : Kap.leN nb κ κ') (hf : ∀ n, nb ≤ n → κ.loc n = none) : κ.le κ' :=
  ⟨(fun n x e => by
    by_cases hn : n < nb
    · rw [h.loc n hn]; exact e
    · rw [hf n (by omega)] at e; cases e), h.st, h.gh, h.sz⟩

/-! ### calls -/
def SoundFn (P : Program) (g : FuncId) (vs : List AV) (st : AS) (v : AV) (st' : AS) : Prop :=
  ∀ (κ : Kap) (us : List Value) (w : World), CRel κ vs us → Rel κ st w →
    Calls P g us.toArray w fun en w' => ∃ κ' v', Kap.leN st.next κ κ' ∧ en = .returned v' ∧ VRel κ' v v' ∧ Rel κ' st' w' ∧ Fr κ (find st.mem) w κ' (find st'.mem) w'
/-- Likewise, told by what changes. -/
def CallEnt (P : Program) (g : FuncId) (vs : List AV) (next : Nat) (m : Mem) (e : Ent) : Prop :=
  ∀ (κ : Kap) (us : List Value) (w : World) (M : Mem), CRel κ vs us → MRel κ M w → (∀ n ∈ e.rd, M n = m n) → (∀ n, next ≤ n → n < next + e.nx → κ.loc n = none) →
    Calls P g us.toArray w fun en w' => ∃ κ' v', κ.le κ' ∧ (∀ n, n < next ∨ next + e.nx ≤ n → κ'.loc n = κ.loc n) ∧ en = .returned v' ∧ VRel κ' e.v v' ∧ MRel κ' (M.sets e.eff) w' ∧ Fr κ M w κ' (M.sets e.eff) w'
theorem CallEnt.sound {g : FuncId} {vs : List AV} {st st' : AS} {e : Ent} (h : CallEnt P g vs st.next (find st.mem) e) (h1 : st'.next = st.next + e.nx) (h2 : find st'.mem = Mem.sets (find st.mem) e.eff) : SoundFn P g vs st e.v st' := by
  intro κ us w hl hR
  refine (h κ us w (find st.mem) hl hR.mem (fun _ _ => rfl) (fun n hn _ => hR.fresh n hn)).mono fun en w' he => ?_
  obtain ⟨κ', v', a1, a2, a3, a4, a5, a6⟩ := he
  refine ⟨κ', v', ⟨fun n hn => a2 n (.inl hn), a1.st, a1.gh, a1.sz⟩, a3, a4, ⟨fun n hn => ?_, by rw [h2]; exact a5⟩, by rw [h2]; exact a6⟩
  rw [a2 n (.inr (by omega))]; exact hR.fresh n (by omega)

abbrev CallT (R : Type) := FuncId → List AV → AS → (AV → AS → Option R) → Option R
def CallOk (P : Program) {R : Type} (call : CallT R) : Prop :=
  ∀ g vs st (k : AV → AS → Option R) r, vs.all (fun x => !isArr x) = true → call g vs st k = some r → ∃ v st', k v st' = some r ∧ st.next ≤ st'.next ∧ SoundFn P g vs st v st'

/-- The function that an operation calls, if that has a body; with what. -/
def callee (P : Program) (o : Oper) (E : Env) : Option (FuncId × List AV) :=
  match o.op with
  | .call c => match c.callee with
    | .value f => match aeval E f with
      | some (.fn g a b) => match aevals E c.args.toList with
        | some vs => match P.funcs[g]? with
          | some fn => match fn.body with
            | some _ => bif (a ++ (vs ++ b)).all (fun x => !isArr x) then some (g, a ++ (vs ++ b)) else none
            | none => none
          | none => none
        | none => none
      | _ => none
    | _ => none
  | _ => none
theorem callee_all {o : Oper} {E : Env} {g : FuncId} {vs : List AV} (h : callee P o E = some (g, vs)) : vs.all (fun x => !isArr x) = true := by
  unfold callee at h
  split at h
  · split at h
    · split at h
      · split at h
        · split at h
          · split at h
            · obtain ⟨ha, h⟩ := cond_some h
              simp only [Option.some.injEq, Prod.mk.injEq] at h
              obtain ⟨rfl, rfl⟩ := h
              exact ha
            · cases h
          · cases h
        · cases h
      · cases h
    · cases h
  · cases h
def NamesOk (P : Program) : Prop := ∀ (g : Nat) (fn : Func), P.funcs[g]? = some fn → (fn.name == "runtime.NumGoroutine") = false
theorem callee_run (hN : NamesOk P) {o : Oper} {E : Env} {g : FuncId} {vs : List AV} (h : callee P o E = some (g, vs)) {κ : Kap} {a : Act} (hA : AOn κ o E a) (w : World) :
    ∃ us, CRel κ vs us ∧ (execOp a.eval o).run P w = .ok (.enter g us.toArray) w := by
  unfold callee at h
  split at h
  · rename_i c ho
    split at h
    · rename_i f hc
      split at h
      · rename_i g' x y hf
        split at h
        · rename_i vs' hvs
          split at h
          · rename_i fn hg
            split at h
            · rename_i body hb
              obtain ⟨_, h⟩ := cond_some h
              simp only [Option.some.injEq, Prod.mk.injEq] at h
              obtain ⟨rfl, rfl⟩ := h
              have hmf : f ∈ o.op.operands := by rw [ho]; simp [Op.operands, Call.operands, hc]
              have hrf := hA f hmf _ hf
              have hargs := aevals_ok c.args.toList vs' (fun x hx v hv => hA x (by rw [ho]; simp only [Op.operands, Call.operands]; simp at hx; simp [hx]) v hv) hvs
              generalize hef : a.eval f = ef at hrf
              cases hrf with
              | fn _ _ _ xs ys h1 h2 _ =>
                refine ⟨xs ++ (c.args.toList.map a.eval ++ ys), h1.append (hargs.append h2), ?_⟩
                simp only [execOp, ho]
                unfold resolve
                rw [hc]
                refine (run_bind_ok (a := ⟨.fn (.func g') ⟨ys⟩, ⟨xs⟩ ++ c.args.map a.eval⟩) (w' := w) (by simp only [hef, Deferred.ofValue]; rfl)).trans ?_
                unfold invoke callFunc
                refine (run_bind_ok (e := program) (a := P) (w' := w) rfl).trans ?_
                simp only [hg, hN g' fn hg, Bool.false_eq_true, if_false, hb, Option.isNone_some]
                have : (⟨xs⟩ ++ c.args.map a.eval ++ ⟨ys⟩ : Array Value) = (xs ++ (c.args.toList.map a.eval ++ ys)).toArray := by
                  apply Array.ext'; simp
                rw [this]; rfl
            · cases h
          · cases h
        · cases h
      · cases h
    · cases h
  · cases h

/-! ### one operation behind the other -/
section
variable {R : Type} (P)
def opsE (call : CallT R) (ops : Array Oper) : List Oper → Env → AS → (Env → AS → Option R) → Option R
  | [], E, st, k => k E st
  | o :: rest, E, st, k =>
    wantE ops o E (fun E =>
      match callee P o E with
      | some (g, vs) => call g vs st fun v st => putEK E o.dst v fun E => opsE call ops rest E st k
      | none => opE P o E st fun e => applyK st e fun st => putEK E o.dst e.v fun E => opsE call ops rest E st k)
      (fun E => putEK E o.dst (.raw undef) fun E => opsE call ops rest E st k)
end
def dstsOk (sz : Nat) (l : List Oper) : Bool := l.all fun o => dstOk sz o.dst
theorem opsE_ok (hZ : ZerosOk P) (hT : FlatOk P) (hN : NamesOk P) {R : Type} {call : CallT R} (hc : CallOk P call) {ops : Array Oper} {sz : Nat} :
    ∀ (l : List Oper) (E : Env) (st : AS) (k : Env → AS → Option R) (r : R), dstsOk sz l = true → opsE P call ops l E st k = some r → ∃ E' st', k E' st' = some r ∧ st.next ≤ st'.next ∧
      ∀ (κ : Kap) (a : Act) (w : World) (Q : Exit → Act → World → Prop), SRel κ sz E a → Rel κ st w →
        (∀ κ' a' w', Kap.leN st.next κ κ' → SRel κ' sz E' a' → Rel κ' st' w' → Fr κ (find st.mem) w κ' (find st'.mem) w' → Q .normal a' w') → wpList P ops Q l a w
  | [], E, st, k, r, _, h => ⟨E, st, h, Nat.le_refl _, fun κ a w Q hA hR hQ => hQ κ a w (Kap.leN_refl _ κ) hA hR (Fr.refl _ _ _)⟩
  | o :: l, E, st, k, r, hd, h => by
    simp only [dstsOk, List.all_cons, Bool.and_eq_true] at hd
    simp only [opsE] at h
    obtain ⟨E1, b, h1, h2⟩ := wantE_ok h
    cases b with
    | true =>
      simp only [if_true] at h1
      split at h1
      · rename_i g vs hcal
        obtain ⟨v, st1, h3, hn1, hs⟩ := hc _ _ _ _ _ (callee_all hcal) h1
        rw [putEK_eq] at h3
        obtain ⟨E', st', hk, hn2, hrest⟩ := opsE_ok hZ hT hN hc l _ st1 k r hd.2 h3
        refine ⟨E', st', hk, Nat.le_trans hn1 hn2, fun κ a w Q hA hR hQ => ?_⟩
        obtain ⟨hw, hA1⟩ := h2 κ sz a hA
        simp only [wpList, hw, if_true]
        refine .inl ?_
        obtain ⟨us, hus, hrun⟩ := callee_run hN hcal (hA1.rel.on o) w
        unfold Oper.wp
        rw [hrun, Oper.upon_enter]
        refine (hs κ us w hus hR).mono fun en w' he => ?_
        obtain ⟨κ', v', a1, rfl, a3, a4, a5⟩ := he
        exact hrest κ' _ w' Q ((hA1.mono (a1.le hR.fresh)).put hd.1 a3) a4 fun κ2 a2 w2 b1 b2 b3 b4 => hQ κ2 a2 w2 (Kap.leN_trans hn1 a1 b1) b2 b3 (a5.trans b4)
      · obtain ⟨e, h3, hop⟩ := opE_ok hZ hT h1
        obtain ⟨st1, h4, hn1, hm1⟩ := applyK_some h3
        rw [putEK_eq] at h4
        obtain ⟨E', st', hk, hn2, hrest⟩ := opsE_ok hZ hT hN hc l _ st1 k r hd.2 h4
        have hn1' : st.next ≤ st1.next := by omega
        refine ⟨E', st', hk, Nat.le_trans hn1' hn2, fun κ a w Q hA hR hQ => ?_⟩
        obtain ⟨hw, hA1⟩ := h2 κ sz a hA
        simp only [wpList, hw, if_true]
        refine .inl (hop κ a w (find st.mem) _ _ (hA1.rel.on o) hR.mem (fun _ _ => rfl) (fun n hn _ => hR.fresh n hn) fun κ' v' w' a1 a2 a3 a4 a5 => ?_)
        refine hrest κ' _ w' Q ((hA1.mono a1).put hd.1 a3) ⟨fun n hn => ?_, by rw [hm1]; exact a4⟩ fun κ2 aa2 w2 b1 b2 b3 b4 => hQ κ2 aa2 w2 (Kap.leN_trans hn1' ⟨fun n hn => a2 n (.inl hn), a1.st, a1.gh, a1.sz⟩ b1) b2 b3 ?_
        · rw [a2 n (.inr (by omega))]; exact hR.fresh n (by omega)
        · rw [hm1] at b4; exact a5.trans b4
    | false =>
      simp only [Bool.false_eq_true, if_false, putEK_eq] at h1
      obtain ⟨E', st', hk, hn2, hrest⟩ := opsE_ok hZ hT hN hc l _ st k r hd.2 h1
      refine ⟨E', st', hk, hn2, fun κ a w Q hA hR hQ => ?_⟩
      obtain ⟨hw, hA1⟩ := h2 κ sz a hA
      simp only [wpList, hw, Bool.false_eq_true, if_false]
      exact hrest κ _ w Q (hA1.put hd.1 (.raw undef .nil)) hR hQ
end Go.Sv
namespace Go.Sv
open Go.RowKit
variable {P : Program}

inductive EK where
  | normal
  | exit (id : Nat)
  | ret
def EK.toExit : EK → Exit
  | .normal => .normal
  | .exit id => .exit id
  | .ret => .ret

/-! ### results -/
section
variable {R : Type} (P)
def resK (E : Env) (st : AS) : List ResultVar → (List AV → Option R) → Option R
  | [], k => k []
  | .tmp t :: rs, k => resK E st rs fun vs => bif isArr (E.get t) then none else k (E.get t :: vs)
  | .cell a t :: rs, k => resK E st rs fun vs => placeK st.mem (E.get a) fun c _ => readT P t c fun v => bif isArr v then none else k (v :: vs)
end
def oneOf : List AV → AV
  | [v] => v
  | vs => .tup vs
/-- What is known of calls. -/
abbrev KT := (R : Type) → FuncId → List AV → AS → Option ((Ent → Option R) → Option R)
/-- What is known of pieces of code: by function and block. -/
abbrev LT := (R : Type) → FuncId → Nat → Env → AS → Option ((EK → Env → AS → Option R) → Option R)
abbrev CallD (R : Type) := FuncId → List AV → AS → (Ent → Option R) → Option R
abbrev Reg (R : Type) := CallD R → Array Oper → Env → AS → (Env → AS → Option R) → Option R

def argsE : Env → Nat → List AV → Env
  | E, _, [] => E
  | E, i, v :: vs => argsE (E.set i v) (i + 1) vs
def argsK {R : Type} : Env → Nat → List AV → (Env → Option R) → Option R
  | E, _, [], k => k E
  | E, i, v :: vs, k => E.setK i v fun E => argsK E (i + 1) vs k
theorem argsK_eq {R : Type} : ∀ (vs : List AV) (E : Env) (i : Nat) (k : Env → Option R), argsK E i vs k = k (argsE E i vs)
  | [], E, i, k => by cases E <;> rfl
  | v :: vs, E, i, k => by
    have : argsK E i (v :: vs) k = E.setK i v fun E => argsK E (i + 1) vs k := by cases E <;> rfl
    rw [this, Env.setK_eq, argsK_eq vs]
    cases E <;> rfl
def enterEnv (fn : Func) (vs : List AV) : Env := argsE (Env.mk (Nat.log2 fn.ntmps + 1)) 0 vs

section
variable {R : Type} (P)
def finE (fn : Func) (k : AV → AS → Option R) (e : EK) (E : Env) (st : AS) : Option R :=
  match e with
  | .exit _ => none
  | _ => resK P E st fn.results.toList fun vs => k (oneOf vs) st
def revRows : List (Nat × Row) → List (Nat × Option Row) → List (Nat × Option Row)
  | [], l => l
  | (n, r) :: m, l => revRows m ((n, some r) :: l)
def delRows : List (Nat × Row) → List (Nat × Option Row) → List (Nat × Option Row)
  | [], l => l
  | (n, _) :: m, l => (n, none) :: delRows m l
def rowNames : List (Nat × Row) → List Nat
  | [] => []
  | p :: m => p.1 :: rowNames m
def bnds (f : AV → Bool) : List AV → Bool
  | [] => true
  | x :: xs => f x && bnds f xs
/-- All names that it bears lie below a bound. -/
def bndN : Nat → Nat → AV → Bool
  | 0, _, _ => false
  | d + 1, n, x =>
    match x with
    | .ptr m _ _ => Nat.blt m n
    | .slc m _ _ _ _ _ _ => Nat.blt m n
    | .mp m => Nat.blt m n
    | .agg c => bnds (bndN d n) c
    | .tup c => bnds (bndN d n) c
    | .ifc _ x => bndN d n x
    | .fn _ a b => bnds (bndN d n) a && bnds (bndN d n) b
    | _ => true
def rowBnd (n : Nat) : Row → Bool
  | .cells c _ _ => bnds (bndN 6 n) c
  | .map _ _ _ => true
  | .ptab _ => true
def accOk (next : Nat) : List (Nat × Row) → Bool
  | [] => true
  | p :: m => (Nat.blt p.1 next && rowBnd next p.2) && accOk next m
def namesL (f : AV → List Nat → List Nat) : List AV → List Nat → List Nat
  | [], l => l
  | x :: xs, l => f x (namesL f xs l)
def namesN : Nat → AV → List Nat → List Nat
  | 0, _, l => l
  | d + 1, x, l =>
    match x with
    | .ptr m _ _ => m :: l
    | .slc m _ _ _ _ _ _ => m :: l
    | .mp m => m :: l
    | .agg c => namesL (namesN d) c l
    | .tup c => namesL (namesN d) c l
    | .ifc _ x => namesN d x l
    | .fn _ a b => namesL (namesN d) a (namesL (namesN d) b l)
    | _ => l
def rowBears : Row → List Nat → List Nat
  | .cells c _ _, l => namesL (namesN 6) c l
  | .map _ _ _, l => l
  | .ptab _, l => l
/-- The rows that values reach. -/
def reach (m : List (Nat × Row)) : Nat → List Nat → List (Nat × Row) → List (Nat × Row)
  | fuel + 1, n :: todo, acc =>
    match find acc n with
    | some _ => reach m fuel todo acc
    | none => match find m n with
      | none => reach m fuel todo acc
      | some row => reach m fuel (rowBears row todo) ((n, row) :: acc)
  | _, _, acc => acc
theorem rowNames_mem {n : Nat} {r : Row} : ∀ {a : List (Nat × Row)}, (n, r) ∈ a → n ∈ rowNames a
  | [], h => by cases h
  | p :: a, h => by
    rcases List.mem_cons.1 h with e | e
    · subst e; exact List.mem_cons_self ..
    · exact List.mem_cons_of_mem _ (rowNames_mem e)
/-- Behind a call that ran on a part of the memory. -/
def entOf (next : Nat) (acc : List (Nat × Row)) (k : Ent → Option R) (v : AV) (st : AS) : Option R :=
  bif Nat.ble next st.next then k ⟨v, delRows acc (revRows st.mem []), st.next - next, rowNames acc⟩ else none
def partK (st : AS) (vs : List AV) (k : List (Nat × Row) → Option R) : Option R :=
  match reach st.mem 60 (namesL (namesN 6) vs []) [] with
  | [] => k []
  | x :: xs => k (x :: xs)
theorem partK_eq (st : AS) (vs : List AV) (k : List (Nat × Row) → Option R) : partK st vs k = k (reach st.mem 60 (namesL (namesN 6) vs []) []) := by
  unfold partK; cases reach st.mem 60 (namesL (namesN 6) vs []) [] <;> rfl
/-- What is known of a statement with a block behind it: by the block's number. -/
def headL (L : LT) (R : Type) (g : FuncId) (y : Code) (E : Env) (st : AS) : Option ((EK → Env → AS → Option R) → Option R) :=
  match y with
  | .block id _ => L R g (2 * id + 1) E st
  | _ => none
def evCode (K : KT) (L : LT) (reg : (R : Type) → Reg R) : Nat → FuncId → Code → Env → AS → (EK → Env → AS → Option R) → Option R
  | 0, _, _, _, _, _ => none
  | fuel + 1, g, c, E, st, k =>
    match c with
    | .skip => k .normal E st
    | .label _ => k .normal E st
    | .exit id => k (.exit id) E st
    | .ret => k .ret E st
    | .seq x y =>
      match headL L R g y E st with
      | some F => F k
      | none => evCode K L reg fuel g x E st fun e E st =>
        match e with
        | .normal => evCode K L reg fuel g y E st k
        | .exit i => k (.exit i) E st
        | .ret => k .ret E st
    | .cond c x y =>
      match c with
      | .tmp t =>
        match E.get t with
        | .bool b => bif b then E.setK t (.bool true) fun E => evCode K L reg fuel g x E st k else E.setK t (.bool false) fun E => evCode K L reg fuel g y E st k
        | _ => none
      | .const (.bool b) => bif b then evCode K L reg fuel g x E st k else evCode K L reg fuel g y E st k
      | _ => none
    | .block id body =>
      match L R g (2 * id) E st with
      | some F => F k
      | none => evCode K L reg fuel g body E st fun e E st =>
        match e with
        | .exit i => bif Nat.beq i id then k .normal E st else k (.exit i) E st
        | .normal => k .normal E st
        | .ret => k .ret E st
    | .loop body => evCode K L reg fuel g body E st fun e E st =>
        match e with
        | .normal => evCode K L reg fuel g (.loop body) E st k
        | .exit i => k (.exit i) E st
        | .ret => k .ret E st
    | .scope body => evCode K L reg fuel g body E st k
    | .region _ ops draw =>
      bif draw then
        reg R (fun (h : FuncId) (vs : List AV) (st : AS) (k : Ent → Option R) =>
          match K R h vs st with
          | some F => F k
          | none =>
              match P.funcs[h]? with
              | none => none
              | some fn =>
                match fn.body with
                | none => none
                | some body => partK st vs fun acc => bif bnds (bndN 6 st.next) vs && accOk st.next acc then
                    argsK (Env.mk (Nat.log2 fn.ntmps + 1)) 0 vs fun E => evCode K L reg fuel h body E ⟨st.next, acc⟩ (finE P fn (entOf st.next acc k))
                  else none) ops E st fun E st => k .normal E st
      else
        opsE P (fun (h : FuncId) (vs : List AV) (st : AS) (k : AV → AS → Option R) =>
          match K R h vs st with
          | some F => F fun e => applyK st e fun st' => k e.v st'
          | none =>
            match P.funcs[h]? with
            | none => none
            | some fn =>
              match fn.body with
              | none => none
              | some body => argsK (Env.mk (Nat.log2 fn.ntmps + 1)) 0 vs fun E => evCode K L reg fuel h body E st (finE P fn k)) ops ops.toList E st fun E st => k .normal E st
    | _ => none
/-- A function. -/
def evFn (K : KT) (L : LT) (reg : (R : Type) → Reg R) (fuel : Nat) (g : FuncId) (vs : List AV) (st : AS) (k : AV → AS → Option R) : Option R :=
  match P.funcs[g]? with
  | none => none
  | some fn =>
    match fn.body with
    | none => none
    | some body => argsK (Env.mk (Nat.log2 fn.ntmps + 1)) 0 vs fun E => evCode P K L reg fuel g body E st (finE P fn k)
end

/-! ### they are sound -/
def resRun (tmps : Array Value) (x : ResultVar) : Sem Value := match x with | .tmp t => pure (tmps.getD t undef) | .cell b t => do loadVar t (← asAddr (tmps.getD b undef))
theorem resK_ok {R : Type} {E : Env} {st : AS} {r : R} : ∀ (rs : List ResultVar) (k : List AV → Option R), resK P E st rs k = some r → ∃ vs, k vs = some r ∧ vs.all (fun x => !isArr x) = true ∧ ∀ (κ : Kap) (sz : Nat) (a : Act) (w : World), SRel κ sz E a → Rel κ st w →
      ∃ us, CRel κ vs us ∧ (rs.mapM (resRun a.tmps)).run P w = .ok us w
  | [], k, h => ⟨[], h, rfl, fun κ sz a w _ _ => ⟨[], .nil, rfl⟩⟩
  | .tmp t :: rs, k, h => by
    simp only [resK] at h
    obtain ⟨vs, h1, h2, h3⟩ := resK_ok rs _ h
    obtain ⟨ha, h4⟩ := cond_some' h1
    refine ⟨_, h4, by simp [ha]; simpa using h2, fun κ sz a w hA hR => ?_⟩
    obtain ⟨us, hu, hrun⟩ := h3 κ sz a w hA hR
    refine ⟨a.tmps.getD t undef :: us, (hA.rel.get t).append hu, ?_⟩
    rw [List.mapM_cons]
    refine (run_bind_ok (e := resRun a.tmps (.tmp t)) (a := a.tmps.getD t undef) (w' := w) rfl).trans ?_
    exact (run_bind_ok hrun).trans rfl
  | .cell b t :: rs, k, h => by
    simp only [resK] at h
    obtain ⟨vs, h1, h2, h3⟩ := resK_ok rs _ h
    obtain ⟨c, rd, h4, h5⟩ := placeK_ok h1
    obtain ⟨hne, v, h6, h7, _⟩ := readT_ok h4
    obtain ⟨ha, h8⟩ := cond_some' h6
    refine ⟨_, h8, by simp [ha]; simpa using h2, fun κ sz a w hA hR => ?_⟩
    obtain ⟨us, hu, hrun⟩ := h3 κ sz a w hA hR
    obtain ⟨ad, had, hpl⟩ := h5 κ w (find st.mem) _ hR.mem (fun _ _ => rfl) (hA.rel.get b) hne
    obtain ⟨u, hv, hr⟩ := h7 κ w ad hpl
    refine ⟨u :: us, CRel.append hv hu, ?_⟩
    rw [List.mapM_cons]
    refine (run_bind_ok (e := resRun a.tmps (.cell b t)) (a := u) (w' := w) ?_).trans ?_
    · unfold resRun
      dsimp only
      rw [had]
      exact (run_bind_ok (e := asAddr (.pointer (some ad))) (a := ad) (w' := w) rfl).trans hr
    · exact (run_bind_ok hrun).trans rfl
theorem one_list {κ : Kap} {vs : List AV} {us : List Value} (h : CRel κ vs us) (ha : vs.all (fun x => !isArr x) = true) : VRel κ (oneOf vs) (if h : us.toArray.size = 1 then us.toArray[0] else .tuple us.toArray) := by
  have hl := h.map_len ha
  match vs, us, h, hl with
  | [], [], h, _ => exact .tup _ _ h .nil
  | [v], [u], h, _ => exact h
  | v :: v2 :: vs, u :: u2 :: us, h, _ => exact .tup _ _ h .nil
theorem results_ok {R : Type} {fn : Func} {E : Env} {st : AS} {k : List AV → Option R} {r : R} (h : resK P E st fn.results.toList k = some r) : ∃ vs, k vs = some r ∧ ∀ (κ : Kap) (sz : Nat) (a : Act) (w : World), SRel κ sz E a → Rel κ st w → ∃ u, VRel κ (oneOf vs) u ∧ (results fn a.tmps).run P w = .ok u w := by
  obtain ⟨vs, h1, h2, h3⟩ := resK_ok _ _ h
  refine ⟨vs, h1, fun κ sz a w hA hR => ?_⟩
  obtain ⟨us, hu, hrun⟩ := h3 κ sz a w hA hR
  refine ⟨_, one_list hu h2, ?_⟩
  unfold results
  rw [Array.mapM_eq_mapM_toList]
  refine (run_bind_ok (a := us.toArray) (w' := w) ?_).trans rfl
  exact (run_bind_ok hrun).trans rfl

/-! ### code -/
def codeOk (sz : Nat) : Code → Bool
  | .region _ ops _ => dstsOk sz ops.toList
  | .seq a b => codeOk sz a && codeOk sz b
  | .cond _ a b => codeOk sz a && codeOk sz b
  | .block _ b => codeOk sz b
  | .loop b => codeOk sz b
  | .scope b => codeOk sz b
  | _ => true
/-- The blocks of a piece of code. -/
def blocks : Code → List (Nat × Code)
  | .seq a b => blocks a ++ blocks b
  | .cond _ a b => blocks a ++ blocks b
  | .block id b => (id, b) :: blocks b
  | .loop b => blocks b
  | .scope b => blocks b
  | _ => []
/-- Statements with a block behind them. -/
def seqs : Code → List (Nat × Code × Code)
  | .seq a b => (match b with | .block id body => [(id, a, body)] | _ => []) ++ (seqs a ++ seqs b)
  | .cond _ a b => seqs a ++ seqs b
  | .block _ b => seqs b
  | .loop b => seqs b
  | .scope b => seqs b
  | _ => []
def regions : Code → List (Nat × Array Oper)
  | .region id ops draw => bif draw then [(id, ops)] else []
  | .seq a b => regions a ++ regions b
  | .cond _ a b => regions a ++ regions b
  | .block _ b => regions b
  | .loop b => regions b
  | .scope b => regions b
  | _ => []

def Post (κ : Kap) (nb sz : Nat) (st : AS) (w : World) (e : EK) (E' : Env) (st' : AS) : Exit → Act → World → Prop := fun ex a' w' =>
  ex = e.toExit ∧ ∃ κ', Kap.leN nb κ κ' ∧ SRel κ' sz E' a' ∧ Rel κ' st' w' ∧ Fr κ (find st.mem) w κ' (find st'.mem) w'
theorem Post.mono {κ κ1 : Kap} {nb sz : Nat} {st st1 st' : AS} {w w1 : World} {e : EK} {E' : Env} (hle : Kap.leN nb κ κ1) (hf : Fr κ (find st.mem) w κ1 (find st1.mem) w1) {ex : Exit} {a' : Act} {w' : World} (h : Post κ1 nb sz st1 w1 e E' st' ex a' w') : Post κ nb sz st w e E' st' ex a' w' := by
  obtain ⟨h1, κ', h2, h3, h4, h5⟩ := h
  exact ⟨h1, κ', Kap.leN_trans (Nat.le_refl _) hle h2, h3, h4, hf.trans h5⟩
def CodeOk (P : Program) (nb sz : Nat) (c : Code) (E : Env) (st : AS) (e : EK) (E' : Env) (st' : AS) : Prop :=
  ∀ (κ : Kap) (a : Act) (w : World), SRel κ sz E a → Rel κ st w → c.wp P (Post κ nb sz st w e E' st') a w
def LoopOk (P : Program) (nb sz : Nat) (body : Code) (E : Env) (st : AS) (e : EK) (E' : Env) (st' : AS) : Prop :=
  ∃ n, ∀ (κ : Kap) (a : Act) (w : World), SRel κ sz E a → Rel κ st w → Code.rounds P body (Post κ nb sz st w e E' st') n a w
theorem rounds_mono {c : Code} {Q Q' : Exit → Act → World → Prop} (hq : ∀ e a w, Q e a w → Q' e a w) : ∀ (n : Nat) (a : Act) (w : World), Code.rounds P c Q n a w → Code.rounds P c Q' n a w
  | 0, _, _, h => h
  | n + 1, a, w, h => by
    rw [rounds_succ] at h ⊢
    refine wp_mono h fun e a w h => ?_
    cases e with
    | normal => exact rounds_mono hq n a w h
    | _ => exact hq _ _ _ h

/-- What is asked of the table of calls, of the table of pieces of code, of the way of statements that draw their order. -/
def KOk (P : Program) (K : KT) : Prop := ∀ (R : Type) g vs st F, K R g vs st = some F → ∀ (k : Ent → Option R) r, F k = some r → ∃ e, k e = some r ∧ CallEnt P g vs st.next (find st.mem) e
def bodyOf (P : Program) (g : FuncId) : Code :=
  match P.funcs[g]? with
  | some fn => fn.body.getD .skip
  | none => .skip
def szOf (P : Program) (g : FuncId) : Nat :=
  match P.funcs[g]? with
  | some fn => fn.ntmps
  | none => 0
structure LOk (P : Program) (L : LT) : Prop where
  block : ∀ (R : Type) g id E st F, L R g (2 * id) E st = some F → ∀ body, (id, body) ∈ blocks (bodyOf P g) → ∀ nb, nb ≤ st.next → ∀ (k : EK → Env → AS → Option R) r, F k = some r →
    ∃ e E' st', k e E' st' = some r ∧ st.next ≤ st'.next ∧ CodeOk P nb (szOf P g) (.block id body) E st e E' st'
  seq : ∀ (R : Type) g id E st F, L R g (2 * id + 1) E st = some F → ∀ x body, (id, x, body) ∈ seqs (bodyOf P g) → ∀ nb, nb ≤ st.next → ∀ (k : EK → Env → AS → Option R) r, F k = some r →
    ∃ e E' st', k e E' st' = some r ∧ st.next ≤ st'.next ∧ CodeOk P nb (szOf P g) (.seq x (.block id body)) E st e E' st'
def CallDOk (P : Program) {R : Type} (call : CallD R) : Prop :=
  ∀ g vs st (k : Ent → Option R) r, vs.all (fun x => !isArr x) = true → call g vs st k = some r → ∃ e, k e = some r ∧ CallEnt P g vs st.next (find st.mem) e
def RegOk (P : Program) (reg : (R : Type) → Reg R) : Prop :=
  ∀ (R : Type) (call : CallD R), CallDOk P call → ∀ (g : FuncId) (id : Nat) (ops : Array Oper), (id, ops) ∈ regions (bodyOf P g) → ∀ (E : Env) (st : AS) (k : Env → AS → Option R) (r : R), reg R call ops E st k = some r →
    ∃ E' st', k E' st' = some r ∧ st.next ≤ st'.next ∧ CodeOk P st.next (szOf P g) (.region id ops true) E st .normal E' st'
structure ProgOk (P : Program) : Prop where
  zeros : ZerosOk P
  flat : FlatOk P
  names : NamesOk P
  codes : ∀ (g : Nat) (fn : Func) (body : Code), P.funcs[g]? = some fn → fn.body = some body → codeOk fn.ntmps body = true
  orders : P.follows .mixedOrders = true

theorem argsE_get : ∀ (vs : List AV) (E : Env) (i t : Nat), (argsE E i vs).get t = .any ∨ (∃ j v, t = i + j ∧ vs[j]? = some v ∧ (argsE E i vs).get t = v) ∨ ((∀ j v, t = i + j → vs[j]? ≠ some v) ∧ (argsE E i vs).get t = E.get t)
  | [], E, i, t => .inr (.inr ⟨fun j v _ => by simp, by cases E <;> rfl⟩)
  | v :: vs, E, i, t => by
    have e : argsE E i (v :: vs) = argsE (E.set i v) (i + 1) vs := by cases E <;> rfl
    rw [e]
    rcases argsE_get vs (E.set i v) (i + 1) t with h | ⟨j, u, h1, h2, h3⟩ | ⟨h1, h2⟩
    · exact .inl h
    · exact .inr (.inl ⟨j + 1, u, by omega, by simpa using h2, h3⟩)
    · by_cases ht : t = i
      · subst ht
        rcases E.get_set_same t v with h | h
        · exact .inr (.inl ⟨0, v, rfl, rfl, by rw [h2, h]⟩)
        · exact .inl (by rw [h2, h])
      · rw [Env.get_set_ne ht] at h2
        refine .inr (.inr ⟨fun j u hj hu => ?_, h2⟩)
        cases j with
        | zero => exact ht (by omega)
        | succ j => exact h1 j u (by omega) (by simpa using hu)
theorem CRel.getI {κ : Kap} : ∀ {c : List AV} {zs : List Value} {i : Nat} {v : AV}, CRel κ c zs → c.all (fun x => !isArr x) = true → c[i]? = some v → ∃ u, zs[i]? = some u ∧ VRel κ v u
  | [], zs, i, v, _, _, h => by simp at h
  | x :: xs, zs, i, v, r, ha, h => by
    simp only [List.all_cons, Bool.and_eq_true, Bool.not_eq_true'] at ha
    obtain ⟨y, ys, rfl, h1, h2⟩ := r.head ha.1
    cases i with
    | zero => simp only [List.getElem?_cons_zero, Option.some.injEq] at h; subst h; exact ⟨y, rfl, h1⟩
    | succ i =>
      simp only [List.getElem?_cons_succ] at h
      obtain ⟨u, h3, h4⟩ := CRel.getI h2 ha.2 h
      exact ⟨u, by simpa using h3, h4⟩
theorem enter_rel {κ : Kap} {fn : Func} {vs : List AV} {us : List Value} (h : CRel κ vs us) (ha : vs.all (fun x => !isArr x) = true) : SRel κ fn.ntmps (enterEnv fn vs) { tmps := us.toArray ++ Array.replicate (fn.ntmps - us.toArray.size) undef, defers := [] } := by
  refine ⟨⟨fun t => ?_, rfl⟩, by simp; omega⟩
  unfold enterEnv
  rcases argsE_get vs (Env.mk (Nat.log2 fn.ntmps + 1)) 0 t with h' | ⟨j, v, h1, h2, h3⟩ | ⟨_, h2⟩
  · rw [h']; exact vrel_any κ _
  · rw [Nat.zero_add] at h1
    subst h1
    rw [h3]
    obtain ⟨u, hu, hv⟩ := h.getI ha h2
    have : (us.toArray ++ Array.replicate (fn.ntmps - us.toArray.size) undef).getD t undef = u := by
      rw [Array.getD_eq_getD_getElem?]
      have hlt := (List.getElem?_eq_some_iff.1 hu).1
      rw [Array.getElem?_append, if_pos (by simpa using hlt)]
      simp [hu]
    rw [this]; exact hv
  · rw [h2, Env.get_mk]; exact vrel_any κ _

/-- A function's body is sound: so is the function. -/
theorem fn_ok {R : Type} {g : FuncId} {fn : Func} {body : Code} (hg : P.funcs[g]? = some fn) (hb : fn.body = some body) {vs : List AV} (ha : vs.all (fun x => !isArr x) = true) {st : AS} {k : AV → AS → Option R} {r : R} {e : EK} {E' : Env} {st' : AS}
    (hc : CodeOk P st.next fn.ntmps body (enterEnv fn vs) st e E' st') (h : finE P fn k e E' st' = some r) : ∃ v, k v st' = some r ∧ SoundFn P g vs st v st' := by
  have key : resK P E' st' fn.results.toList (fun vs => k (oneOf vs) st') = some r → (e = .normal ∨ e = .ret) → ∃ v, k v st' = some r ∧ SoundFn P g vs st v st' := by
    intro h he
    obtain ⟨ws, hk, hres⟩ := results_ok h
    refine ⟨_, hk, fun κ us w hl hR => ?_⟩
    refine calls_of_wp hg hb ?_
    refine wp_mono (hc κ _ w (enter_rel hl ha) hR) fun ex a' w' hq => ?_
    obtain ⟨rfl, κ', hle, hA', hR', hf⟩ := hq
    obtain ⟨u, hu, hrun⟩ := hres κ' _ a' w' hA' hR'
    rcases he with rfl | rfl
    · exact ⟨hA'.rel.defers, u, hrun, κ', u, hle, rfl, hu, hR', hf⟩
    · exact ⟨hA'.rel.defers, u, hrun, κ', u, hle, rfl, hu, hR', hf⟩
  unfold finE at h
  cases e with
  | exit i => cases h
  | normal => exact key h (.inl rfl)
  | ret => exact key h (.inr rfl)
end Go.Sv
namespace Go.Sv
open Go.RowKit
variable {P : Program}

theorem sets_rev : ∀ (m : List (Nat × Row)) (l : List (Nat × Option Row)) (M : Mem), M.sets (revRows m l) = Mem.sets (fun n => match find m n with | some r => some r | none => M n) l
  | [], l, M => rfl
  | (i, r) :: m, l, M => by
    simp only [revRows]
    rw [sets_rev m _ M]
    show (Mem.set _ i (some r)).sets l = _
    congr 1
    funext n
    simp only [find]
    by_cases e : n = i
    · subst e; rw [Mem.set_same]; simp
    · rw [Mem.set_ne _ _ e, beq_false (Ne.symm e), cond_false]
/-- Names below a bound alone. -/
def Kap.upto (κ : Kap) (n : Nat) : Kap := ⟨fun m => if m < n then κ.loc m else none, κ.st, κ.gh, κ.sz⟩
theorem Kap.upto_lt (κ : Kap) {n m : Nat} (h : m < n) : (κ.upto n).loc m = κ.loc m := if_pos h
theorem Kap.upto_ge (κ : Kap) {n m : Nat} (h : n ≤ m) : (κ.upto n).loc m = none := if_neg (by omega)
theorem bnd_ok {n : Nat} {κ : Kap} {xs : List AV} {ys : List Value} (r : CRel κ xs ys) : ∀ d, bnds (bndN d n) xs = true → CRel (κ.upto n) xs ys := by
  have hd : ∀ {d : Nat} {x : AV} {xs : List AV}, bnds (bndN d n) (x :: xs) = true → ∃ e, d = e + 1 ∧ bndN (e + 1) n x = true ∧ bnds (bndN d n) xs = true := by
    intro d x xs h
    simp only [bnds, Bool.and_eq_true] at h
    cases d with
    | zero => simp [bndN] at h
    | succ e => exact ⟨e, rfl, h.1, h.2⟩
  induction r with
  | nil => intro d h; exact .nil
  | any y _ ih => intro d h; obtain ⟨e, rfl, _, h2⟩ := hd h; exact .any y (ih _ h2)
  | bool b _ ih => intro d h; obtain ⟨e, rfl, _, h2⟩ := hd h; exact .bool b (ih _ h2)
  | int k m _ ih => intro d h; obtain ⟨e, rfl, _, h2⟩ := hd h; exact .int k m (ih _ h2)
  | str s _ ih => intro d h; obtain ⟨e, rfl, _, h2⟩ := hd h; exact .str s (ih _ h2)
  | raw v _ ih => intro d h; obtain ⟨e, rfl, _, h2⟩ := hd h; exact .raw v (ih _ h2)
  | ptr m p o b ps h1 h3 _ ih =>
    intro d h; obtain ⟨e, rfl, hx, h2⟩ := hd h
    simp only [bndN, Nat.blt_eq] at hx
    exact .ptr m p o b ps (by rw [Kap.upto_lt _ hx]; exact h1) h3 (ih _ h2)
  | sptr c cs zs b off p o h1 h3 h4 h5 _ _ ih2 => intro d h; obtain ⟨e, rfl, _, h2⟩ := hd h; exact .sptr c cs zs b off p o h1 h3 h4 h5 (ih2 _ h2)
  | slc m ps o i w len cap b cap' a h1 h3 h4 h5 _ ih =>
    intro d h; obtain ⟨e, rfl, hx, h2⟩ := hd h
    simp only [bndN, Nat.blt_eq] at hx
    exact .slc m ps o i w len cap b cap' a (by rw [Kap.upto_lt _ hx]; exact h1) h3 h4 h5 (ih _ h2)
  | slc0 m o i w ps h1 _ ih =>
    intro d h; obtain ⟨e, rfl, hx, h2⟩ := hd h
    simp only [bndN, Nat.blt_eq] at hx
    exact .slc0 m o i w ps (by rw [Kap.upto_lt _ hx]; exact h1) (ih _ h2)
  | lst w len b off cap f us' cs h1 h3 h4 ho h5 h6 _ _ ih2 => intro d h; obtain ⟨e, rfl, _, h2⟩ := hd h; exact .lst w len b off cap f us' cs h1 h3 h4 ho h5 h6 (ih2 _ h2)
  | lst0 w cap f us' a _ ih => intro d h; obtain ⟨e, rfl, _, h2⟩ := hd h; exact .lst0 w cap f us' a (ih _ h2)
  | agg c zs _ _ ih1 ih2 =>
    intro d h; obtain ⟨e, rfl, hx, h2⟩ := hd h
    exact .agg c zs (ih1 e hx) (ih2 _ h2)
  | tup c zs _ _ ih1 ih2 =>
    intro d h; obtain ⟨e, rfl, hx, h2⟩ := hd h
    exact .tup c zs (ih1 e hx) (ih2 _ h2)
  | ifc t x y _ _ ih1 ih2 =>
    intro d h; obtain ⟨e, rfl, hx, h2⟩ := hd h
    simp only [bndN] at hx
    exact .ifc t x y (ih1 e (by simp only [bnds, hx, Bool.true_and])) (ih2 _ h2)
  | fn f a b as bs _ _ _ ih1 ih2 ih3 =>
    intro d h; obtain ⟨e, rfl, hx, h2⟩ := hd h
    simp only [bndN, Bool.and_eq_true] at hx
    exact .fn f a b as bs (ih1 e hx.1) (ih2 e hx.2) (ih3 _ h2)
  | mp m b h1 _ ih =>
    intro d h; obtain ⟨e, rfl, hx, h2⟩ := hd h
    simp only [bndN, Nat.blt_eq] at hx
    exact .mp m b (by rw [Kap.upto_lt _ hx]; exact h1) (ih _ h2)
  | arr w m f us' zs h1 ho h3 h4 h5 _ _ ih2 => intro d h; obtain ⟨e, rfl, _, h2⟩ := hd h; exact .arr w m f us' zs h1 ho h3 h4 h5 (ih2 _ h2)
  | gh g y h1 _ ih => intro d h; obtain ⟨e, rfl, _, h2⟩ := hd h; exact .gh g y h1 (ih _ h2)

theorem dels_sets : ∀ (a : List (Nat × Row)) (l : List (Nat × Option Row)) (M : Mem), M.sets (delRows a l) = Mem.sets (fun n => match find a n with | some _ => none | none => M n) l
  | [], l, M => rfl
  | (i, r) :: a, l, M => by
    show (Mem.set M i none).sets (delRows a l) = _
    rw [dels_sets a]
    congr 1
    funext n
    simp only [find]
    by_cases e : n = i
    · subst e; rw [Mem.set_same]; simp
      cases find a n <;> rfl
    · rw [Mem.set_ne _ _ e, beq_false (Ne.symm e), cond_false]
theorem find_mem : ∀ (a : List (Nat × Row)) (n : Nat) (r : Row), find a n = some r → (n, r) ∈ a
  | [], n, r, h => by simp [find] at h
  | (i, x) :: a, n, r, h => by
    simp only [find] at h
    cases hb : Nat.beq i n with
    | true =>
      rw [hb, cond_true] at h
      have := Nat.eq_of_beq_eq_true hb
      simp only [Option.some.injEq] at h
      subst this; subst h; exact List.mem_cons_self ..
    | false => rw [hb, cond_false] at h; exact List.mem_cons_of_mem _ (find_mem a n r h)
theorem accOk_spec {next : Nat} : ∀ {a : List (Nat × Row)}, accOk next a = true → ∀ n r, (n, r) ∈ a → n < next ∧ rowBnd next r = true
  | [], _, n, r, h => by cases h
  | (i, x) :: a, h, n, r, hm => by
    simp only [accOk, Bool.and_eq_true, Nat.blt_eq] at h
    rcases List.mem_cons.1 hm with e | e
    · simp only [Prod.mk.injEq] at e
      obtain ⟨rfl, rfl⟩ := e
      exact h.1
    · exact accOk_spec h.2 n r e
theorem RowRel.upto {κ : Kap} {w : World} {n next : Nat} {r : Row} (h : RowRel κ w n r) (hn : n < next) (hb : rowBnd next r = true) : RowRel (κ.upto next) w n r := by
  cases r with
  | cells c own tip =>
    simp only [rowBnd] at hb
    rcases h with ⟨h1, h2⟩ | ⟨b, zs, rest, e, fr, h1, h2, h3, h4⟩
    · exact .inl ⟨by rw [Kap.upto_lt _ hn]; exact h1, bnd_ok h2 _ hb⟩
    · exact .inr ⟨b, zs, rest, e, fr, by rw [Kap.upto_lt _ hn]; exact h1, h2, bnd_ok h3 _ hb, h4⟩
  | map kk l clock =>
    obtain ⟨b, es, h1, h2, h3⟩ := h
    exact ⟨b, es, by rw [Kap.upto_lt _ hn]; exact h1, h2, Ents.mono (κ := κ) (κ' := κ.upto next) ⟨fun _ _ h => h, fun _ _ h => h, rfl, fun _ _ h => h⟩ h3.ent, h3.stamped⟩
  | ptab xs =>
    obtain ⟨l, clock, b, es, h0, h1, h2, h3⟩ := h
    exact ⟨l, clock, b, es, h0, by rw [Kap.upto_lt _ hn]; exact h1, h2, Ents.mono (κ := κ) (κ' := κ.upto next) ⟨fun _ _ h => h, fun _ _ h => h, rfl, fun _ _ h => h⟩ h3.ent, h3.stamped⟩

/-- A call on a part of the memory. -/
theorem SoundFn.frame {g : FuncId} {vs : List AV} {next : Nat} {acc : List (Nat × Row)} {v : AV} {st' : AS} (h : SoundFn P g vs ⟨next, acc⟩ v st') (hb : bnds (bndN 6 next) vs = true) (ha : accOk next acc = true) (hn : next ≤ st'.next) (m : Mem)
    (hm : ∀ n r, find acc n = some r → m n = some r) : CallEnt P g vs next m ⟨v, delRows acc (revRows st'.mem []), st'.next - next, rowNames acc⟩ := by
  intro κ us w M hl hR hrd hfr
  have hfr : ∀ n, next ≤ n → n < st'.next → κ.loc n = none := fun n h1 h2 => hfr n h1 (by dsimp only; omega)
  have hsub : ∀ n r, find acc n = some r → M n = some r := fun n r hr => by
    rw [hrd n (rowNames_mem (find_mem _ _ _ hr))]; exact hm n r hr
  have hacc : ∀ n r, find acc n = some r → n < next ∧ rowBnd next r = true := fun n r hr => accOk_spec ha n r (find_mem _ _ _ hr)
  have hR0 : Rel (κ.upto next) ⟨next, acc⟩ w := ⟨fun n hn => Kap.upto_ge _ hn, hR.szlt, hR.stable, fun n r hr => (hR.row n r (hsub n r hr)).upto (hacc n r hr).1 (hacc n r hr).2, fun n n' r r' b h1 h2 h3 h4 ho => by
    rw [Kap.upto_lt _ (hacc n r h1).1] at h3
    rw [Kap.upto_lt _ (hacc n' r' h2).1] at h4
    exact hR.inj n n' r r' b (hsub n r h1) (hsub n' r' h2) h3 h4 ho⟩
  refine (h (κ.upto next) us w (bnd_ok hl _ hb) hR0).mono fun en w' he => ?_
  obtain ⟨κ1, v', hle, rfl, hv, hR', hF⟩ := he
  have hlow : ∀ n, n < next → κ1.loc n = κ.loc n := fun n hn => by rw [hle.loc n hn, Kap.upto_lt _ hn]
  -- a block of a row of the part is that row's alone
  have hown : ∀ b, owned (κ.upto next) (find acc) b → ∃ n r, find acc n = some r ∧ M n = some r ∧ r.own = true ∧ κ.loc n = some (some b) := fun b ho => by
    obtain ⟨n, r, h1, h2, h3⟩ := ho
    rw [Kap.upto_lt _ (hacc n r h1).1] at h3
    exact ⟨n, r, h1, hsub n r h1, h2, h3⟩
  have hother : ∀ n r b, find acc n = none → M n = some r → κ.loc n = some (some b) → ¬ owned (κ.upto next) (find acc) b := fun n r b h1 h2 h3 ho => by
    obtain ⟨n0, r0, g1, g2, g3, g4⟩ := hown b ho
    have := hR.inj n0 n r0 r b g2 h2 g4 h3 g3
    subst this
    rw [g1] at h1; cases h1
  let κ' : Kap := ⟨fun n => if n < next then κ.loc n else if n < st'.next then κ1.loc n else κ.loc n, κ1.st, κ.gh, κ1.sz⟩
  have hκ1 : κ1.le κ' := ⟨(fun n x e => by
    show (if n < next then κ.loc n else if n < st'.next then κ1.loc n else κ.loc n) = some x
    by_cases h1 : n < next
    · rw [if_pos h1, ← hlow n h1]; exact e
    · by_cases h2 : n < st'.next
      · rw [if_neg h1, if_pos h2]; exact e
      · rw [hR'.fresh n (by omega)] at e; cases e), fun _ _ h => h, hle.gh.symm, fun _ _ h => h⟩
  have hout : ∀ n, n < next ∨ st'.next ≤ n → κ'.loc n = κ.loc n := fun n hn => by
    show (if n < next then κ.loc n else if n < st'.next then κ1.loc n else κ.loc n) = κ.loc n
    by_cases h1 : n < next
    · rw [if_pos h1]
    · rw [if_neg h1, if_neg (by omega)]
  have hin : ∀ n, n < st'.next → κ'.loc n = κ1.loc n := fun n hn => by
    show (if n < next then κ.loc n else if n < st'.next then κ1.loc n else κ.loc n) = κ1.loc n
    by_cases h1 : n < next
    · rw [if_pos h1, hlow n h1]
    · rw [if_neg h1, if_pos hn]
  have hκ : κ.le κ' := ⟨(fun n x e => by
    by_cases h1 : n < next ∨ st'.next ≤ n
    · rw [hout n h1]; exact e
    · rw [hfr n (by omega) (by omega)] at e; cases e), fun b cs e => hle.st b cs e, rfl, fun b s e => hle.sz b s e⟩
  have hM : ∀ n, (M.sets (delRows acc (revRows st'.mem []))) n = match find st'.mem n with | some r => some r | none => match find acc n with | some _ => none | none => M n := fun n => by rw [dels_sets, sets_rev]; rfl
  have hsome : ∀ n r, find st'.mem n = some r → ∃ x, κ1.loc n = some x := fun n r hr => by
    have hrow := hR'.mem.row n r hr
    cases r with
    | cells c own tip => rcases hrow with ⟨h1, _⟩ | ⟨b, _, _, _, _, h1, _⟩ <;> exact ⟨_, h1⟩
    | map kk l clock => obtain ⟨b, _, h1, _⟩ := hrow; exact ⟨_, h1⟩
    | ptab xs => obtain ⟨_, _, b, _, _, h1, _⟩ := hrow; exact ⟨_, h1⟩
  have hnewloc : ∀ n r, find st'.mem n = some r → κ'.loc n = κ1.loc n := fun n r hr => by
    obtain ⟨x, hx⟩ := hsome n r hr
    rcases Nat.lt_or_ge n st'.next with h | h
    · exact hin n h
    · rw [hR'.fresh n h] at hx; cases hx
  have holdloc : ∀ n r, M n = some r → κ'.loc n = κ.loc n := fun n r hr => by
    by_cases h1 : n < next ∨ st'.next ≤ n
    · exact hout n h1
    · have hrow := hR.row n r hr
      have := hfr n (by omega) (by omega)
      cases r with
      | cells c own tip => rcases hrow with ⟨h1, _⟩ | ⟨b, _, _, _, _, h1, _⟩ <;> (rw [this] at h1; cases h1)
      | map kk l clock => obtain ⟨b, _, h1, _⟩ := hrow; rw [this] at h1; cases h1
      | ptab xs => obtain ⟨_, _, b, _, _, h1, _⟩ := hrow; rw [this] at h1; cases h1
  -- a row of the memory: of the call, or untouched
  have hsplit : ∀ n r, (M.sets (delRows acc (revRows st'.mem []))) n = some r → (find st'.mem n = some r) ∨ (find acc n = none ∧ M n = some r) := fun n r hr => by
    rw [hM] at hr
    cases hf : find st'.mem n with
    | some r2 => rw [hf] at hr; exact .inl hr
    | none =>
      rw [hf] at hr
      cases hg : find acc n with
      | some _ => rw [hg] at hr; cases hr
      | none => rw [hg] at hr; exact .inr ⟨rfl, hr⟩
  have hblk : ∀ n r b, find st'.mem n = some r → r.own = true → κ1.loc n = some (some b) → w.heap.size ≤ b ∨ owned (κ.upto next) (find acc) b := fun n r b hr ho hb => by
    rcases Nat.lt_or_ge b w.heap.size with h | h
    · exact .inr (hF.owns b h ⟨n, r, hr, ho, hb⟩)
    · exact .inl h
  -- no row of the call that is its own lies where an untouched row does
  have hcross : ∀ n n' r r' b, find st'.mem n = some r → find acc n' = none → M n' = some r' → κ1.loc n = some (some b) → κ.loc n' = some (some b) → r.own = true → False := fun n n' r r' b h1 h2 h3 h4 h5 ho => by
    rcases hblk n r b h1 ho h4 with h | h
    · have := (hR.row n' r' h3).lt h5; omega
    · exact hother n' r' b h2 h3 h5 h
  refine ⟨κ', v', hκ, fun n hn => hout n (by dsimp only at hn; omega), rfl, hv.mono hκ1, ⟨hR'.mem.szlt, hR'.mem.stable, fun n r hn => ?_, fun n n' r r' b h1 h2 h3 h4 ho => ?_⟩, ⟨fun b cs e => ?_, hF.os, hF.tape, hF.output, hF.size, fun b hb hno => ?_, fun b hb ho => ?_⟩⟩
  · rcases hsplit n r hn with hf | ⟨hg, hf⟩
    · exact (hR'.mem.row n _ hf).mono hκ1 fun b _ hb => hb
    · have hrow := hR.row n r hf
      refine (hrow.congr (w' := w') fun b hb => hF.keep b (hrow.lt hb) (hother n r b hg hf hb)).mono hκ fun b hb hs => ?_
      show κ1.st b = none
      cases hx : κ1.st b with
      | none => rfl
      | some cs =>
        rcases hF.sts b cs hx with h | h | h
        · have h : κ.st b = some cs := h
          rw [hs] at h; cases h
        · have := hrow.lt hb; omega
        · exact absurd h (hother n r b hg hf hb)
  · rcases hsplit n r h1 with hf | ⟨hg, hf⟩
    · rw [hnewloc n _ hf] at h3
      rcases hsplit n' r' h2 with hf' | ⟨hg', hf'⟩
      · rw [hnewloc n' _ hf'] at h4
        exact hR'.mem.inj n n' _ _ b hf hf' h3 h4 ho
      · rw [holdloc n' _ hf'] at h4
        exact (hcross n n' r r' b hf hg' hf' h3 h4 ho).elim
    · rw [holdloc n _ hf] at h3
      rcases hsplit n' r' h2 with hf' | ⟨hg', hf'⟩
      · rw [hnewloc n' _ hf'] at h4
        exfalso
        cases hro : r'.own with
        | true => exact hcross n' n r' r b hf' hg hf h4 h3 hro
        | false =>
          have hrow := hR'.mem.row n' _ hf'
          cases r' with
          | map kk l clock => cases hro
          | ptab xs => cases hro
          | cells c own tip =>
            simp only [Row.own] at hro
            subst hro
            rcases hrow with ⟨g1, _⟩ | ⟨b', zs, rest, e, fr, g1, g2, g3, g4, g5, g6, g7⟩
            · rw [h4] at g1; cases g1
            · rw [h4] at g1; cases g1
              rcases hF.sts b zs (g6 rfl) with h | h | h
              · exact hR.stable_not_owned h ⟨n, r, hf, ho, h3⟩
              · have := (hR.row n r hf).lt h3; omega
              · exact hother n r b hg hf h3 h
      · rw [holdloc n' _ hf'] at h4
        exact hR.inj n n' r r' b hf hf' h3 h4 ho
  · rcases hF.sts b cs e with h | h | h
    · exact .inl h
    · exact .inr (.inl h)
    · obtain ⟨n, r, _, g2, g3, g4⟩ := hown b h
      exact .inr (.inr ⟨n, r, g2, g3, g4⟩)
  · refine hF.keep b hb fun ho => hno ?_
    obtain ⟨n, r, _, g2, g3, g4⟩ := hown b ho
    exact ⟨n, r, g2, g3, g4⟩
  · obtain ⟨n, r, h1, h2, h3⟩ := ho
    rcases hsplit n r h1 with hf | ⟨hg, hf⟩
    · rw [hnewloc n _ hf] at h3
      rcases hblk n r b hf h2 h3 with h | h
      · omega
      · obtain ⟨n0, r0, _, g2, g3, g4⟩ := hown b h
        exact ⟨n0, r0, g2, g3, g4⟩
    · rw [holdloc n _ hf] at h3
      exact ⟨n, r, hf, h2, h3⟩

theorem reach_ok {m : List (Nat × Row)} : ∀ (fuel : Nat) (todo : List Nat) (acc : List (Nat × Row)), (∀ n r, find acc n = some r → find m n = some r) → ∀ n r, find (reach m fuel todo acc) n = some r → find m n = some r
  | 0, todo, acc, h, n, r, e => h n r (by cases todo <;> exact e)
  | fuel + 1, [], acc, h, n, r, e => h n r e
  | fuel + 1, x :: todo, acc, h, n, r, e => by
    simp only [reach] at e
    cases hf : find acc x with
    | some _ => rw [hf] at e; exact reach_ok fuel todo acc h n r e
    | none =>
      rw [hf] at e
      dsimp only at e
      cases hg : find m x with
      | none => rw [hg] at e; exact reach_ok fuel todo acc h n r e
      | some row =>
        rw [hg] at e
        refine reach_ok fuel _ ((x, row) :: acc) (fun n r e => ?_) n r e
        simp only [find] at e
        cases hb : Nat.beq x n with
        | true =>
          rw [hb, cond_true] at e
          have := Nat.eq_of_beq_eq_true hb
          subst this; rw [hg]; exact e
        | false => rw [hb, cond_false] at e; exact h n r e
end Go.Sv
namespace Go.Sv
open Go.RowKit
variable {P : Program}

theorem fn_eq {g : FuncId} {fn : Func} {body : Code} (hg : P.funcs[g]? = some fn) (hb : fn.body = some body) : bodyOf P g = body ∧ szOf P g = fn.ntmps := by
  constructor
  · unfold bodyOf; rw [hg]; simp [hb]
  · unfold szOf; rw [hg]

theorem evCode_ok (hP : ProgOk P) {K : KT} (hK : KOk P K) {L : LT} (hL : LOk P L) {reg : (R : Type) → Reg R} (hreg : RegOk P reg) :
    ∀ (fuel : Nat) {R : Type} (g : FuncId) (c : Code) (E : Env) (st : AS) (k : EK → Env → AS → Option R) (r : R) (nb : Nat),
    codeOk (szOf P g) c = true → (∀ x ∈ blocks c, x ∈ blocks (bodyOf P g)) → (∀ x ∈ seqs c, x ∈ seqs (bodyOf P g)) → (∀ x ∈ regions c, x ∈ regions (bodyOf P g)) → nb ≤ st.next →
    evCode P K L reg fuel g c E st k = some r → ∃ e E' st', k e E' st' = some r ∧ st.next ≤ st'.next ∧ CodeOk P nb (szOf P g) c E st e E' st' ∧ ∀ body, c = .loop body → LoopOk P nb (szOf P g) body E st e E' st'
  | 0, R, g, c, E, st, k, r, nb, hco, hbl, hsq, hrg, hnb, h => by simp [evCode] at h
  | fuel + 1, R, g, c, E, st, k, r, nb, hco, hbl, hsq, hrg, hnb, h => by
    have ih := fun {R : Type} => evCode_ok hP hK hL hreg fuel (R := R)
    have inl : ∀ {R : Type} (h : FuncId) (vs : List AV) (st : AS) (k : AV → AS → Option R) (r : R) (fn : Func) (body : Code), P.funcs[h]? = some fn → fn.body = some body → vs.all (fun x => !isArr x) = true →
        evCode P K L reg fuel h body (enterEnv fn vs) st (finE P fn k) = some r → ∃ v st', k v st' = some r ∧ st.next ≤ st'.next ∧ SoundFn P h vs st v st' := by
      intro R h vs st k r fn body hg hb ha hh
      obtain ⟨e1, e2⟩ := fn_eq hg hb
      have := ih h body (enterEnv fn vs) st (finE P fn k) r st.next (by rw [e2]; exact hP.codes h fn body hg hb) (by rw [e1]; exact fun x hx => hx) (by rw [e1]; exact fun x hx => hx) (by rw [e1]; exact fun x hx => hx) (Nat.le_refl _) hh
      obtain ⟨e, E', st', hf, hn, hc, _⟩ := this
      rw [e2] at hc
      obtain ⟨v, hv, hs⟩ := fn_ok hg hb ha hc hf
      exact ⟨v, st', hv, hn, hs⟩
    have hreg0 : ∀ {E E' : Env} {st : AS} {e : EK} {c : Code}, e = .normal → (∀ (κ : Kap) (a : Act) (w : World), SRel κ (szOf P g) E a → c.wp P (fun ex a' w' => ex = .normal ∧ a' = a ∧ w' = w) a w) → E' = E → CodeOk P nb (szOf P g) c E st e E' st := by
      intro E E' st e c he hc hE κ a w hA hR
      subst he
      subst hE
      refine wp_mono (hc κ a w hA) fun ex a' w' hq => ?_
      obtain ⟨rfl, rfl, rfl⟩ := hq
      exact ⟨rfl, κ, Kap.leN_refl _ _, hA, hR, Fr.refl _ _ _⟩
    cases c with
    | skip =>
      simp only [evCode] at h
      exact ⟨_, _, _, h, Nat.le_refl _, fun κ a w hA hR => wp_skip ⟨rfl, κ, Kap.leN_refl _ _, hA, hR, Fr.refl _ _ _⟩, fun _ e => by cases e⟩
    | label l =>
      simp only [evCode] at h
      exact ⟨_, _, _, h, Nat.le_refl _, fun κ a w hA hR => wp_label ⟨rfl, κ, Kap.leN_refl _ _, hA, hR, Fr.refl _ _ _⟩, fun _ e => by cases e⟩
    | exit id =>
      simp only [evCode] at h
      exact ⟨_, _, _, h, Nat.le_refl _, fun κ a w hA hR => wp_exit ⟨rfl, κ, Kap.leN_refl _ _, hA, hR, Fr.refl _ _ _⟩, fun _ e => by cases e⟩
    | ret =>
      simp only [evCode] at h
      exact ⟨_, _, _, h, Nat.le_refl _, fun κ a w hA hR => wp_ret ⟨rfl, κ, Kap.leN_refl _ _, hA, hR, Fr.refl _ _ _⟩, fun _ e => by cases e⟩
    | goto l => simp [evCode] at h
    | refuse why => simp [evCode] at h
    | rangeFunc f params asg body => simp [evCode] at h
    | seq x y =>
      simp only [evCode] at h
      simp only [codeOk, Bool.and_eq_true] at hco
      split at h
      · rename_i F hF
        cases y with
        | block id body =>
          have hmem : (id, x, body) ∈ seqs (bodyOf P g) := hsq _ (by simp [seqs])
          obtain ⟨e, E', st', h1, h2, h3⟩ := hL.seq R g id E st F hF x body hmem nb hnb k r h
          exact ⟨e, E', st', h1, h2, h3, fun _ e => by cases e⟩
        | _ => cases hF
      · have hsx : ∀ z ∈ seqs x, z ∈ seqs (bodyOf P g) := fun z hz => hsq z (by simp [seqs, hz])
        have hsy : ∀ z ∈ seqs y, z ∈ seqs (bodyOf P g) := fun z hz => hsq z (by simp [seqs, hz])
        simp only [blocks, regions, List.mem_append] at hbl hrg
        obtain ⟨e1, A1, st1, h1, hn1, hx, _⟩ := ih g x E st _ r nb hco.1 (fun x hx => hbl x (.inl hx)) hsx (fun x hx => hrg x (.inl hx)) hnb h
        cases e1 with
        | normal =>
          obtain ⟨e2, A2, st2, h2, hn2, hy, _⟩ := ih g y A1 st1 k r nb hco.2 (fun x hx => hbl x (.inr hx)) hsy (fun x hx => hrg x (.inr hx)) (by omega) h1
          refine ⟨e2, A2, st2, h2, by omega, fun κ a w hA hR => wp_seq ?_, fun _ e => by cases e⟩
          refine wp_mono (hx κ a w hA hR) fun ex a' w' hq => ?_
          obtain ⟨rfl, κ', hle, hA', hR', hb⟩ := hq
          exact wp_mono (hy κ' a' w' hA' hR') fun ex a2 w2 hq2 => hq2.mono hle hb
        | exit i =>
          refine ⟨_, A1, st1, h1, hn1, fun κ a w hA hR => wp_seq ?_, fun _ e => by cases e⟩
          refine wp_mono (hx κ a w hA hR) fun ex a' w' hq => ?_
          have := hq.1
          subst this
          exact hq
        | ret =>
          refine ⟨_, A1, st1, h1, hn1, fun κ a w hA hR => wp_seq ?_, fun _ e => by cases e⟩
          refine wp_mono (hx κ a w hA hR) fun ex a' w' hq => ?_
          have := hq.1
          subst this
          exact hq
    | cond c x y =>
      simp only [evCode] at h
      simp only [codeOk, Bool.and_eq_true] at hco
      simp only [blocks, seqs, regions, List.mem_append] at hbl hsq hrg
      split at h
      · rename_i t
        split at h
        · rename_i b hb
          have hcond : ∀ κ (a : Act), SRel κ (szOf P g) E a → a.eval (.tmp t) = .bool b := fun κ a hA => by
            have := hA.rel.get t
            rw [hb] at this
            exact bool_of this
          cases b with
          | true =>
            simp only [cond_true, Env.setK_eq] at h
            obtain ⟨e1, A1, st1, h1, hn1, hx, _⟩ := ih g x _ st k r nb hco.1 (fun x hx => hbl x (.inl hx)) (fun x hx => hsq x (.inl hx)) (fun x hx => hrg x (.inl hx)) hnb h
            exact ⟨e1, A1, st1, h1, hn1, fun κ a w hA hR => wp_cond_true (hcond κ a hA) (hx κ a w (hA.again hb) hR), fun _ e => by cases e⟩
          | false =>
            simp only [cond_false, Env.setK_eq] at h
            obtain ⟨e1, A1, st1, h1, hn1, hx, _⟩ := ih g y _ st k r nb hco.2 (fun x hx => hbl x (.inr hx)) (fun x hx => hsq x (.inr hx)) (fun x hx => hrg x (.inr hx)) hnb h
            exact ⟨e1, A1, st1, h1, hn1, fun κ a w hA hR => wp_cond_false (hcond κ a hA) (hx κ a w (hA.again hb) hR), fun _ e => by cases e⟩
        · cases h
      · rename_i b
        cases b with
        | true =>
          simp only [cond_true] at h
          obtain ⟨e1, A1, st1, h1, hn1, hx, _⟩ := ih g x E st k r nb hco.1 (fun x hx => hbl x (.inl hx)) (fun x hx => hsq x (.inl hx)) (fun x hx => hrg x (.inl hx)) hnb h
          exact ⟨e1, A1, st1, h1, hn1, fun κ a w hA hR => wp_cond_true rfl (hx κ a w hA hR), fun _ e => by cases e⟩
        | false =>
          simp only [cond_false] at h
          obtain ⟨e1, A1, st1, h1, hn1, hx, _⟩ := ih g y E st k r nb hco.2 (fun x hx => hbl x (.inr hx)) (fun x hx => hsq x (.inr hx)) (fun x hx => hrg x (.inr hx)) hnb h
          exact ⟨e1, A1, st1, h1, hn1, fun κ a w hA hR => wp_cond_false rfl (hx κ a w hA hR), fun _ e => by cases e⟩
      · cases h
    | block id body =>
      simp only [evCode] at h
      simp only [codeOk] at hco
      simp only [regions, seqs] at hrg hsq
      have hmem : (id, body) ∈ blocks (bodyOf P g) := hbl _ (by simp [blocks])
      have hbl' : ∀ x ∈ blocks body, x ∈ blocks (bodyOf P g) := fun x hx => hbl x (by simp [blocks, hx])
      split at h
      · rename_i F hF
        obtain ⟨e, E', st', h1, h2, h3⟩ := hL.block R g id E st F hF body hmem nb hnb k r h
        exact ⟨e, E', st', h1, h2, h3, fun _ e => by cases e⟩
      · obtain ⟨e1, A1, st1, h1, hn1, hx, _⟩ := ih g body E st _ r nb hco hbl' hsq hrg hnb h
        cases e1 with
        | normal =>
          refine ⟨_, A1, st1, h1, hn1, fun κ a w hA hR => wp_block ?_, fun _ e => by cases e⟩
          refine wp_mono (hx κ a w hA hR) fun ex a' w' hq => ?_
          have := hq.1
          subst this
          exact hq
        | ret =>
          refine ⟨_, A1, st1, h1, hn1, fun κ a w hA hR => wp_block ?_, fun _ e => by cases e⟩
          refine wp_mono (hx κ a w hA hR) fun ex a' w' hq => ?_
          have := hq.1
          subst this
          exact hq
        | exit i =>
          simp only at h1
          cases hi : Nat.beq i id with
          | true =>
            have hi' := Nat.eq_of_beq_eq_true hi
            simp only [hi, cond_true] at h1
            refine ⟨_, A1, st1, h1, hn1, fun κ a w hA hR => wp_block ?_, fun _ e => by cases e⟩
            refine wp_mono (hx κ a w hA hR) fun ex a' w' hq => ?_
            obtain ⟨rfl, hq⟩ := hq
            subst hi'
            show Exit.inBlock i _ (.exit i) a' w'
            simp only [Exit.inBlock, if_true]
            exact ⟨rfl, hq⟩
          | false =>
            have hi' : i ≠ id := fun e => by subst e; simp at hi
            simp only [hi, cond_false] at h1
            refine ⟨_, A1, st1, h1, hn1, fun κ a w hA hR => wp_block ?_, fun _ e => by cases e⟩
            refine wp_mono (hx κ a w hA hR) fun ex a' w' hq => ?_
            obtain ⟨rfl, hq⟩ := hq
            show Exit.inBlock id _ (.exit i) a' w'
            simp only [Exit.inBlock, if_neg hi']
            exact ⟨rfl, hq⟩
    | loop body =>
      simp only [evCode] at h
      have hco' := hco
      have hbl' := hbl
      have hsq' := hsq
      have hrg' := hrg
      simp only [codeOk] at hco
      simp only [blocks, seqs, regions] at hbl hsq hrg
      obtain ⟨e1, A1, st1, h1, hn1, hx, _⟩ := ih g body E st _ r nb hco hbl hsq hrg hnb h
      have key : ∃ e A' st', k e A' st' = some r ∧ st.next ≤ st'.next ∧ LoopOk P nb (szOf P g) body E st e A' st' := by
        cases e1 with
        | normal =>
          obtain ⟨e2, A2, st2, h2, hn2, _, hl⟩ := ih g (.loop body) A1 st1 k r nb hco' hbl' hsq' hrg' (by omega) h1
          obtain ⟨n, hn⟩ := hl body rfl
          refine ⟨e2, A2, st2, h2, by omega, n + 1, fun κ a w hA hR => ?_⟩
          rw [rounds_succ]
          refine wp_mono (hx κ a w hA hR) fun ex a' w' hq => ?_
          obtain ⟨rfl, κ', hle, hA', hR', hb⟩ := hq
          exact rounds_mono (fun ex a2 w2 hq2 => hq2.mono hle hb) n a' w' (hn κ' a' w' hA' hR')
        | exit i =>
          refine ⟨_, A1, st1, h1, hn1, 1, fun κ a w hA hR => ?_⟩
          rw [rounds_succ]
          refine wp_mono (hx κ a w hA hR) fun ex a' w' hq => ?_
          have := hq.1
          subst this
          exact hq
        | ret =>
          refine ⟨_, A1, st1, h1, hn1, 1, fun κ a w hA hR => ?_⟩
          rw [rounds_succ]
          refine wp_mono (hx κ a w hA hR) fun ex a' w' hq => ?_
          have := hq.1
          subst this
          exact hq
      obtain ⟨e, A', st', hk, hn, hl⟩ := key
      refine ⟨e, A', st', hk, hn, fun κ a w hA hR => ?_, fun b hb => by cases hb; exact hl⟩
      obtain ⟨n, hn⟩ := hl
      exact wp_loop_rounds n (hn κ a w hA hR)
    | scope body =>
      simp only [evCode] at h
      simp only [codeOk] at hco
      simp only [blocks, seqs, regions] at hbl hsq hrg
      obtain ⟨e1, A1, st1, h1, hn1, hx, _⟩ := ih g body E st k r nb hco hbl hsq hrg hnb h
      refine ⟨e1, A1, st1, h1, hn1, fun κ a w hA hR => wp_scope_straight ?_, fun _ e => by cases e⟩
      refine wp_mono (hx κ a w hA hR) fun ex a' w' hq => ?_
      obtain ⟨rfl, hq⟩ := hq
      cases e1 <;> exact ⟨rfl, hq⟩
    | region id ops draw =>
      simp only [evCode] at h
      cases draw with
      | true =>
        simp only [cond_true] at h
        have hmem : (id, ops) ∈ regions (bodyOf P g) := hrg _ (by simp [regions])
        obtain ⟨E', st', hk, hn, hc⟩ := hreg R _ (by
          intro h vs st k r ha hh
          dsimp only at hh
          split at hh
          · rename_i F hkk
            exact hK _ _ _ _ _ hkk _ _ hh
          · split at hh
            · cases hh
            · rename_i fn hg
              split at hh
              · cases hh
              · rename_i body hb
                rw [partK_eq] at hh
                obtain ⟨hck, hh⟩ := cond_some hh
                simp only [Bool.and_eq_true] at hck
                rw [argsK_eq] at hh
                obtain ⟨v, st', hv, hn, hs⟩ := inl h vs _ _ r fn body hg hb ha hh
                unfold entOf at hv
                obtain ⟨_, hv⟩ := cond_some hv
                exact ⟨_, hv, hs.frame hck.1 hck.2 hn _ (reach_ok _ _ _ (fun n r e => by simp [find] at e))⟩) g id ops hmem E st _ r h
        refine ⟨.normal, E', st', hk, hn, fun κ a w hA hR => ?_, fun _ e => by cases e⟩
        refine wp_mono (hc κ a w hA hR) fun ex a' w' hq => ?_
        obtain ⟨e1, κ', h1, h2⟩ := hq
        exact ⟨e1, κ', h1.mono hnb, h2⟩
      | false =>
        simp only [cond_false] at h
        simp only [codeOk] at hco
        obtain ⟨E', st', hk, hn, hc⟩ := opsE_ok hP.zeros hP.flat hP.names (by
          intro h vs st k r ha hh
          dsimp only at hh
          split at hh
          · rename_i F hkk
            obtain ⟨e, he, hs⟩ := hK _ _ _ _ _ hkk _ _ hh
            obtain ⟨st', h1, h2, h3⟩ := applyK_some he
            exact ⟨_, st', h1, by omega, hs.sound h2 h3⟩
          · split at hh
            · cases hh
            · rename_i fn hg
              split at hh
              · cases hh
              · rename_i body hb
                rw [argsK_eq] at hh
                exact inl h vs _ _ r fn body hg hb ha hh) _ _ _ _ r hco h
        refine ⟨.normal, E', st', hk, hn, fun κ a w hA hR => wp_region_list (hc κ a w _ hA hR fun κ' a' w' hle hA' hR' hb => ?_), fun _ e => by cases e⟩
        exact ⟨rfl, κ', hle.mono hnb, hA', hR', hb⟩

theorem evFn_ok (hP : ProgOk P) {K : KT} (hK : KOk P K) {L : LT} (hL : LOk P L) {reg : (R : Type) → Reg R} (hreg : RegOk P reg) {R : Type} {fuel : Nat} {g : FuncId} {vs : List AV} {st : AS} {k : AV → AS → Option R} {r : R} (ha : vs.all (fun x => !isArr x) = true)
    (h : evFn P K L reg fuel g vs st k = some r) : ∃ v st', k v st' = some r ∧ st.next ≤ st'.next ∧ SoundFn P g vs st v st' := by
  unfold evFn at h
  split at h
  · cases h
  · rename_i fn hg
    split at h
    · cases h
    · rename_i body hb
      rw [argsK_eq] at h
      obtain ⟨e1, e2⟩ := fn_eq hg hb
      obtain ⟨e, E', st', hf, hn, hc, _⟩ := evCode_ok hP hK hL hreg fuel g body _ st _ r st.next (by rw [e2]; exact hP.codes g fn body hg hb) (by rw [e1]; exact fun x hx => hx) (by rw [e1]; exact fun x hx => hx) (by rw [e1]; exact fun x hx => hx) (Nat.le_refl _) h
      rw [e2] at hc
      obtain ⟨v, hv, hs⟩ := fn_ok hg hb ha hc hf
      exact ⟨v, st', hv, hn, hs⟩
end Go.Sv
