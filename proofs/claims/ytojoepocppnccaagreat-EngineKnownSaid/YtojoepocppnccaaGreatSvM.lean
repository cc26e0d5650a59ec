/- A second evaluator for the model's code: maps. -/
import Derived.Test.YtojoepocppnccaaGreatSvD
import Derived.MapKept
namespace Go.Sv
noncomputable section
open Go.RowKit
variable {P : Program}

/-! ### keys -/
def bytesEq : List UInt8 → List UInt8 → Bool
  | [], [] => true
  | a :: as, b :: bs => Nat.beq a.toNat b.toNat && bytesEq as bs
  | _, _ => false
theorem bytesEq_iff : ∀ {a b : List UInt8}, bytesEq a b = true ↔ a = b
  | [], [] => by simp [bytesEq]
  | [], _ :: _ => by simp [bytesEq]
  | _ :: _, [] => by simp [bytesEq]
  | a :: as, b :: bs => by
    simp only [bytesEq, Bool.and_eq_true, bytesEq_iff, List.cons.injEq]
    constructor
    · rintro ⟨h, rfl⟩
      exact ⟨UInt8.toNat_inj.1 (Nat.eq_of_beq_eq_true h), rfl⟩
    · rintro ⟨rfl, rfl⟩
      exact ⟨by simp, rfl⟩
def keyEq : Key → Key → Bool
  | .i a, .i b => a == b
  | .s a, .s b => bytesEq a b
  | _, _ => false
def keyOf : Option IntKind → AV → Option Key
  | some k, .int k' n => bif decide (k' = k) then some (.i n) else none
  | none, .str s => some (.s s)
  | _, _ => none
theorem keyOf_ok {kk : Option IntKind} {v : AV} {K : Key} (h : keyOf kk v = some K) {κ : Kap} {y : Value} (hv : VRel κ v y) : KeyV kk K y := by
  unfold keyOf at h
  split at h
  · obtain ⟨h1, h2⟩ := cond_some h
    have := of_decide_eq_true h1
    simp only [Option.some.injEq] at h2
    subst h2; subst this
    cases hv; exact ⟨rfl, rfl⟩
  · simp only [Option.some.injEq] at h
    subst h
    cases hv; rfl
  · cases h
theorem keyV_iff {kk : Option IntKind} {a b : Key} {x y : Value} (h : KeyV kk a x) (k : KeyV kk b y) : keyEq a b = true ↔ x = y := by
  cases kk with
  | none =>
    cases a <;> cases x <;> first | (cases h; done) | skip
    cases b <;> cases y <;> first | (cases k; done) | skip
    simp only [KeyV] at h k
    subst h; subst k
    simp only [keyEq, bytesEq_iff, Value.string.injEq, ByteArray.mk.injEq]
    constructor
    · intro h; rw [h]
    · intro h; simpa using congrArg Array.toList h
  | some q =>
    cases a <;> cases x <;> first | (cases h; done) | skip
    cases b <;> cases y <;> first | (cases k; done) | skip
    simp only [KeyV] at h k
    obtain ⟨rfl, rfl⟩ := h
    obtain ⟨rfl, rfl⟩ := k
    simp [keyEq]
def kkDesc : Option IntKind → TypeDesc
  | some k => .int k
  | none => .string
theorem keyV_isKey {kk : Option IntKind} {a : Key} {x : Value} (h : KeyV kk a x) : MapKept.IsKey (kkDesc kk) x := by
  cases kk <;> cases a <;> cases x <;> first | (cases h; done) | skip
  · trivial
  · exact h.1
/-- A map's type: the keys' kind, the keys' and the values' type. -/
def mapTy (P : Program) (t : TypeId) : Option (Option IntKind × TypeId × TypeId) :=
  match P.underlying t with
  | some (.map key elem) => match P.underlying key with
    | some (.int k) => some (some k, key, elem)
    | some .string => some (none, key, elem)
    | _ => none
  | _ => none
theorem mapTy_ok {t : TypeId} {kk : Option IntKind} {key elem : TypeId} (h : mapTy P t = some (kk, key, elem)) : P.underlying t = some (.map key elem) ∧ P.underlying key = some (kkDesc kk) := by
  unfold mapTy at h
  split at h
  · rename_i key' elem' ht
    split at h
    · rename_i k hk
      simp only [Option.some.injEq, Prod.mk.injEq] at h
      obtain ⟨rfl, rfl, rfl⟩ := h
      exact ⟨ht, hk⟩
    · rename_i hk
      simp only [Option.some.injEq, Prod.mk.injEq] at h
      obtain ⟨rfl, rfl, rfl⟩ := h
      exact ⟨ht, hk⟩
    · cases h
  · cases h

/-! ### entries -/
section
variable {R : Type}
def lookK (l : List (Key × Nat × AV)) (K : Key) (found : AV → Option R) (missing : Option R) : Option R :=
  match l with
  | [] => missing
  | (k, _, v) :: l => bif keyEq K k then found v else lookK l K found missing
def putMapK (l : List (Key × Nat × AV)) (clock : Nat) (K : Key) (v : AV) (k : List (Key × Nat × AV) → Nat → Option R) : Option R :=
  match l with
  | [] => k [(K, clock, v)] (clock + 1)
  | (k', b', v') :: l => bif keyEq K k' then k ((K, b', v) :: l) clock else putMapK l clock K v fun l' c => k ((k', b', v') :: l') c
def delMapK (l : List (Key × Nat × AV)) (K : Key) (k : List (Key × Nat × AV) → Option R) : Option R :=
  match l with
  | [] => k []
  | (k', b', v') :: l => bif keyEq K k' then k l else delMapK l K fun l' => k ((k', b', v') :: l')
end
theorem Ents.isKey {κ : Kap} {kk : Option IntKind} : ∀ {l : List (Key × Nat × AV)} {es : List MapEntry}, Ents κ kk l es → ∀ e ∈ es, MapKept.IsKey (kkDesc kk) e.key
  | [], [], _, e, he => by cases he
  | (_, _, _) :: _, _ :: es, h, e, he => by
    rcases List.mem_cons.1 he with rfl | he
    · exact keyV_isKey h.1.1.1
    · exact Ents.isKey h.2 e he
  | [], _ :: _, h, _, _ => h.elim
  | _ :: _, [], h, _, _ => h.elim
theorem Ents.length {κ : Kap} {kk : Option IntKind} : ∀ {l : List (Key × Nat × AV)} {es : List MapEntry}, Ents κ kk l es → es.length = l.length
  | [], [], _ => rfl
  | (_, _, _) :: _, _ :: _, h => by simp [Ents.length h.2]
  | [], _ :: _, h => h.elim
  | _ :: _, [], h => h.elim
theorem lookK_ok {R : Type} {K : Key} {found : AV → Option R} {missing : Option R} {r : R} : ∀ {l : List (Key × Nat × AV)}, lookK l K found missing = some r →
    (missing = some r ∧ ∀ κ kk es y, Ents κ kk l es → KeyV kk K y → ∀ e ∈ es, e.key ≠ y) ∨
    (∃ v, found v = some r ∧ ∀ κ kk es y, Ents κ kk l es → KeyV kk K y → ∃ (j : Nat) (e : MapEntry), es[j]? = some e ∧ e.key = y ∧ VRel κ.nl v e.val)
  | [], h => .inl ⟨h, fun κ kk es y he _ => by cases es <;> simp [Ents] at he ⊢⟩
  | (k, b, v) :: l, h => by
    simp only [lookK] at h
    cases hb : keyEq K k with
    | true =>
      rw [hb, cond_true] at h
      refine .inr ⟨v, h, fun κ kk es y he hy => ?_⟩
      cases es with
      | nil => exact he.elim
      | cons e es => exact ⟨0, e, rfl, ((keyV_iff hy he.1.1.1).1 hb).symm, he.1.2⟩
    | false =>
      rw [hb, cond_false] at h
      rcases lookK_ok h with ⟨h1, h2⟩ | ⟨v', h1, h2⟩
      · refine .inl ⟨h1, fun κ kk es y he hy => ?_⟩
        cases es with
        | nil => exact he.elim
        | cons e es =>
          intro e' he'
          rcases List.mem_cons.1 he' with rfl | he'
          · intro q
            rw [(keyV_iff hy he.1.1.1).2 q.symm] at hb; cases hb
          · exact h2 κ kk es y he.2 hy e' he'
      · refine .inr ⟨v', h1, fun κ kk es y he hy => ?_⟩
        cases es with
        | nil => exact he.elim
        | cons e es =>
          obtain ⟨j, e', a, b, c⟩ := h2 κ kk es y he.2 hy
          exact ⟨j + 1, e', by simpa using a, b, c⟩
/-- An entry that is put: the list as it is then, where it stands. -/
theorem putMapK_ok {R : Type} {clock : Nat} {K : Key} {v : AV} {r : R} : ∀ {l : List (Key × Nat × AV)} {k : List (Key × Nat × AV) → Nat → Option R}, putMapK l clock K v k = some r →
    ∃ l' c', k l' c' = some r ∧ ∀ κ kk es y z, Ents κ kk l es → KeyV kk K y → VRel κ.nl v z →
      ((∀ e ∈ es, e.key ≠ y) ∧ Ents κ kk l' (es ++ [⟨y, z, clock⟩]) ∧ c' = clock + 1) ∨
      (∃ (j : Nat) (e : MapEntry), es[j]? = some e ∧ e.key = y ∧ Ents κ kk l' (es.set j ⟨y, z, e.born⟩) ∧ c' = clock)
  | [], k, h => ⟨_, _, h, fun κ kk es y z he hy hz => by
      cases es with
      | cons _ _ => exact he.elim
      | nil => exact .inl ⟨by simp, ⟨⟨⟨hy, rfl⟩, hz⟩, trivial⟩, rfl⟩⟩
  | (k', b', v') :: l, k, h => by
    simp only [putMapK] at h
    cases hb : keyEq K k' with
    | true =>
      rw [hb, cond_true] at h
      refine ⟨_, _, h, fun κ kk es y z he hy hz => ?_⟩
      cases es with
      | nil => exact he.elim
      | cons e es => exact .inr ⟨0, e, rfl, ((keyV_iff hy he.1.1.1).1 hb).symm, ⟨⟨⟨hy, he.1.1.2⟩, hz⟩, he.2⟩, rfl⟩
    | false =>
      rw [hb, cond_false] at h
      obtain ⟨l', c', h1, h2⟩ := putMapK_ok h
      refine ⟨_, _, h1, fun κ kk es y z he hy hz => ?_⟩
      cases es with
      | nil => exact he.elim
      | cons e es =>
        rcases h2 κ kk es y z he.2 hy hz with ⟨a, b, c⟩ | ⟨j, e', a, b, c, d⟩
        · refine .inl ⟨fun e' he' => ?_, ⟨he.1, b⟩, c⟩
          rcases List.mem_cons.1 he' with rfl | he'
          · intro q
            rw [(keyV_iff hy he.1.1.1).2 q.symm] at hb; cases hb
          · exact a e' he'
        · exact .inr ⟨j + 1, e', by simpa using a, b, ⟨he.1, c⟩, d⟩
theorem delMapK_ok {R : Type} {K : Key} {r : R} : ∀ {l : List (Key × Nat × AV)} {k : List (Key × Nat × AV) → Option R}, delMapK l K k = some r →
    ∃ l', k l' = some r ∧ ∀ κ kk es y, Ents κ kk l es → KeyV kk K y →
      ((∀ e ∈ es, e.key ≠ y) ∧ l' = l) ∨ (∃ (j : Nat) (e : MapEntry), es[j]? = some e ∧ e.key = y ∧ Ents κ kk l' (es.eraseIdx j))
  | [], k, h => ⟨_, h, fun κ kk es y he hy => by
      cases es with
      | cons _ _ => exact he.elim
      | nil => exact .inl ⟨by simp, rfl⟩⟩
  | (k', b', v') :: l, k, h => by
    simp only [delMapK] at h
    cases hb : keyEq K k' with
    | true =>
      rw [hb, cond_true] at h
      refine ⟨_, h, fun κ kk es y he hy => ?_⟩
      cases es with
      | nil => exact he.elim
      | cons e es => exact .inr ⟨0, e, rfl, ((keyV_iff hy he.1.1.1).1 hb).symm, he.2⟩
    | false =>
      rw [hb, cond_false] at h
      obtain ⟨l', h1, h2⟩ := delMapK_ok h
      refine ⟨_, h1, fun κ kk es y he hy => ?_⟩
      cases es with
      | nil => exact he.elim
      | cons e es =>
        rcases h2 κ kk es y he.2 hy with ⟨a, b⟩ | ⟨j, e', a, b, c⟩
        · refine .inl ⟨fun e' he' => ?_, by rw [b]⟩
          rcases List.mem_cons.1 he' with rfl | he'
          · intro q
            rw [(keyV_iff hy he.1.1.1).2 q.symm] at hb; cases hb
          · exact a e' he'
        · exact .inr ⟨j + 1, e', by simpa using a, b, ⟨he.1, c⟩⟩

/-- A type's zero value. -/
def zeroAV (P : Program) (t : TypeId) : Option AV :=
  match qrun P (zeroValue t) with
  | some (.agg _) => match zeroT P t with
    | some c => some (.agg c)
    | none => none
  | some z => match zeroT P t with
    | some [x] => bif oneV z && !isArr x then some x else none
    | _ => none
  | none => none
theorem zeroAV_ok (hZ : ZerosOk P) {t : TypeId} {v : AV} (h : zeroAV P t = some v) : isArr v = false ∧ ∃ z, qrun P (zeroValue t) = some z ∧ ∀ κ, VRel κ v z := by
  unfold zeroAV at h
  split at h
  · rename_i cs hz
    split at h
    · rename_i c hc
      simp only [Option.some.injEq] at h; subst h
      refine ⟨rfl, _, hz, fun κ => ?_⟩
      have := (zero_rel hZ hc hz).2 κ
      exact .agg c cs.toList this .nil
    · cases h
  · rename_i z hne hz
    split at h
    · rename_i x hc
      obtain ⟨hb, h⟩ := cond_some h
      simp only [Bool.and_eq_true, Bool.not_eq_true'] at hb
      simp only [Option.some.injEq] at h; subst h
      refine ⟨hb.2, z, hz, fun κ => ?_⟩
      have := (zero_rel hZ hc hz).2 κ
      have e : z.cells.toList = [z] := by cases z <;> first | rfl | (simp [oneV] at hb; done)
      rw [e] at this; exact this
    · cases h
  · cases h

/-! ### pairs of numbers -/
def hasId (id : Int) (xs : List (Int × Int)) : Bool := xs.any fun x => x.1 == id
def bytF (id : Int) : List (Int × Int) → Int
  | [] => 0
  | x :: r => bif x.1 == id then x.2 else bytF id r
def putP (id z : Int) : List (Int × Int) → List (Int × Int)
  | [] => [(id, z)]
  | x :: r => bif x.1 == id then (id, z) :: r else x :: putP id z r
def delP (id : Int) : List (Int × Int) → List (Int × Int)
  | [] => []
  | x :: r => bif x.1 == id then r else x :: delP id r
theorem bytF_none (id : Int) : ∀ (xs : List (Int × Int)), hasId id xs = false → bytF id xs = 0
  | [], _ => rfl
  | x :: r, h => by
    simp only [hasId, List.any_cons, Bool.or_eq_false_iff] at h
    simp only [bytF, h.1, cond_false]
    exact bytF_none id r h.2
theorem pt_cons {xs : List (Int × Int)} {e : Key × Nat × AV} {l : List (Key × Nat × AV)} (h : PT xs (e :: l)) : ∃ x r, xs = x :: r ∧ e = (.i x.1, e.2.1, .int .i64 x.2) ∧ PT r l := by
  unfold PT at h
  cases xs with
  | nil => simp at h
  | cons x r =>
    simp only [List.map_cons, List.cons.injEq, Prod.mk.injEq] at h
    obtain ⟨k, b, v⟩ := e
    obtain ⟨⟨h1, h2⟩, h3⟩ := h
    dsimp only at h1 h2
    subst h1; subst h2
    exact ⟨x, r, rfl, rfl, h3⟩
theorem pt_nil {xs : List (Int × Int)} (h : PT xs []) : xs = [] := by
  unfold PT at h
  cases xs with
  | nil => rfl
  | cons x r => simp at h
theorem pt_look (id : Int) : ∀ {l : List (Key × Nat × AV)} {xs : List (Int × Int)}, PT xs l → lookK l (.i id) (fun v => some (some v)) (some none) = some (bif hasId id xs then some (AV.int .i64 (bytF id xs)) else none)
  | [], xs, h => by rw [pt_nil h]; rfl
  | e :: l, xs, h => by
    obtain ⟨x, r, rfl, he, hr⟩ := pt_cons h
    have ih := pt_look id hr
    rw [he]
    have hk : keyEq (.i id) (.i x.1) = (x.1 == id) := by
      simp only [keyEq]
      exact Bool.eq_iff_iff.2 ⟨fun h => by simp only [beq_iff_eq] at h ⊢; exact h.symm, fun h => by simp only [beq_iff_eq] at h ⊢; exact h.symm⟩
    simp only [lookK, hk, hasId, List.any_cons, bytF]
    cases hb : (x.1 == id) with
    | true => simp
    | false => simpa [hasId] using ih
theorem pt_put (id z : Int) (clock : Nat) : ∀ {l : List (Key × Nat × AV)} {xs : List (Int × Int)}, PT xs l → ∃ l' c', PT (putP id z xs) l' ∧ putMapK l clock (.i id) (.int .i64 z) (fun l' c' => some (l', c')) = some (l', c') ∧ ∀ {R : Type} (k : List (Key × Nat × AV) → Nat → Option R), putMapK l clock (.i id) (.int .i64 z) k = k l' c'
  | [], xs, h => by rw [pt_nil h]; exact ⟨[(.i id, clock, .int .i64 z)], clock + 1, rfl, rfl, fun _ => rfl⟩
  | e :: l, xs, h => by
    obtain ⟨x, r, rfl, he, hr⟩ := pt_cons h
    obtain ⟨l', c', h1, _, h2⟩ := pt_put id z clock hr
    rw [he]
    have hk : keyEq (.i id) (.i x.1) = (x.1 == id) := by
      simp only [keyEq]
      exact Bool.eq_iff_iff.2 ⟨fun h => by simp only [beq_iff_eq] at h ⊢; exact h.symm, fun h => by simp only [beq_iff_eq] at h ⊢; exact h.symm⟩
    simp only [putMapK, hk, putP]
    cases hb : (x.1 == id) with
    | true => exact ⟨(.i id, e.2.1, .int .i64 z) :: l, clock, by simp only [cond_true, PT, List.map_cons]; rw [show l.map (fun e => (e.1, e.2.2)) = r.map (fun x => (Key.i x.1, AV.int .i64 x.2)) from hr], rfl, fun _ => rfl⟩
    | false => exact ⟨(.i x.1, e.2.1, .int .i64 x.2) :: l', c', by simp only [cond_false, PT, List.map_cons]; rw [show l'.map (fun e => (e.1, e.2.2)) = (putP id z r).map (fun x => (Key.i x.1, AV.int .i64 x.2)) from h1], by simp only [cond_false, h2], fun k => by simp only [cond_false, h2]⟩
theorem pt_del (id : Int) : ∀ {l : List (Key × Nat × AV)} {xs : List (Int × Int)}, PT xs l → ∃ l', PT (delP id xs) l' ∧ delMapK l (.i id) (fun l' => some l') = some l' ∧ ∀ {R : Type} (k : List (Key × Nat × AV) → Option R), delMapK l (.i id) k = k l'
  | [], xs, h => by rw [pt_nil h]; exact ⟨[], rfl, rfl, fun _ => rfl⟩
  | e :: l, xs, h => by
    obtain ⟨x, r, rfl, he, hr⟩ := pt_cons h
    obtain ⟨l', h1, _, h2⟩ := pt_del id hr
    rw [he]
    have hk : keyEq (.i id) (.i x.1) = (x.1 == id) := by
      simp only [keyEq]
      exact Bool.eq_iff_iff.2 ⟨fun h => by simp only [beq_iff_eq] at h ⊢; exact h.symm, fun h => by simp only [beq_iff_eq] at h ⊢; exact h.symm⟩
    simp only [delMapK, hk, delP]
    cases hb : (x.1 == id) with
    | true => exact ⟨l, hr, rfl, fun _ => rfl⟩
    | false => exact ⟨(.i x.1, e.2.1, .int .i64 x.2) :: l', by simp only [cond_false, PT, List.map_cons]; rw [show l'.map (fun e => (e.1, e.2.2)) = (delP id r).map (fun x => (Key.i x.1, AV.int .i64 x.2)) from h1], by simp only [cond_false, h2], fun k => by simp only [cond_false, h2]⟩
def zeroI : Option AV → Bool
  | some (.int .i64 z) => z == 0
  | _ => false
theorem zeroI_eq {o : Option AV} (h : zeroI o = true) : o = some (.int .i64 0) := by
  unfold zeroI at h
  split at h
  · rw [beq_iff_eq] at h; rw [h]
  · cases h

/-! ### operations -/
section
variable {R : Type} (P)
def makeMapE (t : TypeId) (reserve : Option Operand) (E : Env) (st : AS) (k : Ent → Option R) : Option R :=
  match mapTy P t with
  | some (kk, _, _) =>
    let done := k ⟨.mp st.next, [(st.next, some (.map kk [] 0))], 1, []⟩
    match reserve with
    | none => done
    | some x => match aeval E x with
      | some (.int _ _) => done
      | _ => none
  | none => none
def foundK (ok : Bool) (rd : List Nat) (k : Ent → Option R) (v : AV) (b : Bool) : Option R :=
  bif isArr v then none else bif ok then k ⟨.tup [v, .bool b], [], 0, rd⟩ else k ⟨v, [], 0, rd⟩
def lookupE (t : TypeId) (x ix : Operand) (ok : Bool) (E : Env) (m : List (Nat × Row)) (k : Ent → Option R) : Option R :=
  match mapTy P t with
  | some (kk, _, elem) => match aeval E ix with
    | some iv => match keyOf kk iv with
      | some K => match aeval E x with
        | some (.mp n) => match find m n with
          | some (.map kk' l _) => bif decide (kk' = kk) then lookK l K (fun v => foundK ok [n] k v true)
              (match zeroAV P elem with
               | some z => foundK ok [n] k z false
               | none => none) else none
          | some (.ptab xs) => match K with
            | .i id => bif decide (kk = some .i64) then
                bif !ok && zeroI (zeroAV P elem) then foundK ok [n] k (.int .i64 (bytF id xs)) true
                else bif hasId id xs then foundK ok [n] k (.int .i64 (bytF id xs)) true
                else (match zeroAV P elem with
                 | some z => foundK ok [n] k z false
                 | none => none) else none
            | _ => none
          | _ => none
        | some (.raw (.map none)) => match zeroAV P elem with
          | some z => foundK ok [] k z false
          | none => none
        | _ => none
      | none => none
    | none => none
  | none => none
def shedVK (m : List (Nat × Row)) (x : AV) (k : AV → List Nat → Option R) : Option R :=
  match x with
  | .agg c => shedK m c fun c' ns => k (.agg c') ns
  | x => shed1K m x k
def mapUpdateE (t : TypeId) (x ix y : Operand) (E : Env) (m : List (Nat × Row)) (k : Ent → Option R) : Option R :=
  match mapTy P t with
  | some (kk, _, _) => match aeval E ix with
    | some iv => match keyOf kk iv with
      | some K => match aeval E x with
        | some (.mp n) => match find m n with
          | some (.map kk' l clock) => match aeval E y with
            | some v => bif decide (kk' = kk) then shedVK m v fun v' ns => bif memB ns n then none else putMapK l clock K v' fun l' c' => k ⟨.raw undef, frz m ns ++ [(n, some (.map kk l' c'))], 0, n :: ns⟩ else none
            | none => none
          | some (.ptab xs) => match K with
            | .i id => match aeval E y with
              | some (.int .i64 z) => bif decide (kk = some .i64) then k ⟨.raw undef, [(n, some (.ptab (putP id z xs)))], 0, [n]⟩ else none
              | _ => none
            | _ => none
          | _ => none
        | _ => none
      | none => none
    | none => none
  | none => none
def deleteE (t : TypeId) (x ix : Operand) (E : Env) (m : List (Nat × Row)) (k : Ent → Option R) : Option R :=
  match mapTy P t with
  | some (kk, _, _) => match aeval E ix with
    | some iv => match keyOf kk iv with
      | some K => match aeval E x with
        | some (.mp n) => match find m n with
          | some (.map kk' l clock) => bif decide (kk' = kk) then delMapK l K fun l' => k ⟨.raw (.tuple #[]), [(n, some (.map kk l' clock))], 0, [n]⟩ else none
          | some (.ptab xs) => match K with
            | .i id => bif decide (kk = some .i64) then k ⟨.raw (.tuple #[]), [(n, some (.ptab (delP id xs)))], 0, [n]⟩ else none
            | _ => none
          | _ => none
        | some (.raw (.map none)) => k ⟨.raw (.tuple #[]), [], 0, []⟩
        | _ => none
      | none => none
    | none => none
  | none => none
end
end
end Go.Sv
