/- A second evaluator for the model's code: what rows values reach, found by a tree of the rows; what is left of the others. -/
import Derived.Test.YtojoepocppnccaaGreatSvF
namespace Go.Sv
noncomputable section
open Go.RowKit
variable {P : Program}

def bnds (f : AV → Bool) : List AV → Bool
  | [] => true
  | x :: xs => f x && bnds f xs
/-- All names that it bears lie below a bound. -/
def bndN : Nat → Nat → AV → Bool
  | 0, _, _ => false
  | d + 1, n, x =>
    match x with
    | .ptr m _ _ => Nat.blt m n
    | .slc m _ _ _ _ _ _ => Nat.blt m n
    | .mp m => Nat.blt m n
    | .agg c => bnds (bndN d n) c
    | .tup c => bnds (bndN d n) c
    | .ifc _ x => bndN d n x
    | .fn _ a b => bnds (bndN d n) a && bnds (bndN d n) b
    | _ => true
def rowBnd (n : Nat) : Row → Bool
  | .cells c _ _ => bnds (bndN 6 n) c
  | .map _ _ _ => true
  | .ptab _ => true
def accOk (next : Nat) : List (Nat × Row) → Bool
  | [] => true
  | p :: m => (Nat.blt p.1 next && rowBnd next p.2) && accOk next m
def namesL (f : AV → List Nat → List Nat) : List AV → List Nat → List Nat
  | [], l => l
  | x :: xs, l => f x (namesL f xs l)
def namesN : Nat → AV → List Nat → List Nat
  | 0, _, l => l
  | d + 1, x, l =>
    match x with
    | .ptr m _ _ => m :: l
    | .slc m _ _ _ _ _ _ => m :: l
    | .mp m => m :: l
    | .agg c => namesL (namesN d) c l
    | .tup c => namesL (namesN d) c l
    | .ifc _ x => namesN d x l
    | .fn _ a b => namesL (namesN d) a (namesL (namesN d) b l)
    | _ => l
def rowBears : Row → List Nat → List Nat
  | .cells c _ _, l => namesL (namesN 6) c l
  | .map _ _ _, l => l
  | .ptab _, l => l
def rowNames : List (Nat × Row) → List Nat
  | [] => []
  | p :: m => p.1 :: rowNames m

/-! ### a tree of rows -/
inductive RT where
  | nil
  | node (l : RT) (v : Option Row) (r : RT)
def RT.get (t : RT) : Nat → Option Row := @RT.rec (fun _ => Nat → Option Row) (fun _ => none) (fun _ v _ gl gr n => @Bool.rec (fun _ => Option Row) (@Bool.rec (fun _ => Option Row) (gr (Nat.sub (Nat.div n 2) 1)) (gl (Nat.div n 2)) (Nat.beq (Nat.mod n 2) 1)) v (Nat.beq n 0)) t
theorem RT.get_node (l r : RT) (v : Option Row) (n : Nat) : (RT.node l v r).get n = bif Nat.beq n 0 then v else bif Nat.beq (n % 2) 1 then l.get (n / 2) else r.get (n / 2 - 1) := by
  show @Bool.rec (fun _ => Option Row) (@Bool.rec (fun _ => Option Row) (r.get (n / 2 - 1)) (l.get (n / 2)) (Nat.beq (n % 2) 1)) v (Nat.beq n 0) = _
  cases Nat.beq n 0 <;> cases Nat.beq (n % 2) 1 <;> rfl
theorem RT.get_nil (n : Nat) : RT.nil.get n = none := rfl
def RT.ins : Nat → RT → Nat → Row → RT
  | 0, t, _, _ => t
  | d + 1, .nil, n, x => bif Nat.beq n 0 then .node .nil (some x) .nil else bif Nat.beq (n % 2) 1 then .node (RT.ins d .nil (n / 2) x) none .nil else .node .nil none (RT.ins d .nil (n / 2 - 1) x)
  | d + 1, .node l v r, n, x => bif Nat.beq n 0 then .node l (some x) r else bif Nat.beq (n % 2) 1 then .node (RT.ins d l (n / 2) x) v r else .node l v (RT.ins d r (n / 2 - 1) x)
section
variable {R : Type}
def RT.insK (d : Nat) : RT → Nat → Row → (RT → Option R) → Option R := @Nat.rec (fun _ => RT → Nat → Row → (RT → Option R) → Option R) (fun t _ _ k => k t)
  (fun _ ih t => @RT.rec (fun _ => (RT → Nat → Row → (RT → Option R) → Option R) → Nat → Row → (RT → Option R) → Option R)
    (fun ih n x k => @Bool.rec (fun _ => Option R) (@Bool.rec (fun _ => Option R) (ih .nil (Nat.sub (Nat.div n 2) 1) x fun r => k (.node .nil none r)) (ih .nil (Nat.div n 2) x fun l => k (.node l none .nil)) (Nat.beq (Nat.mod n 2) 1)) (k (.node .nil (some x) .nil)) (Nat.beq n 0))
    (fun l v r _ _ ih n x k => @Bool.rec (fun _ => Option R) (@Bool.rec (fun _ => Option R) (ih r (Nat.sub (Nat.div n 2) 1) x fun r => k (.node l v r)) (ih l (Nat.div n 2) x fun l => k (.node l v r)) (Nat.beq (Nat.mod n 2) 1)) (k (.node l (some x) r)) (Nat.beq n 0)) t ih) d
theorem RT.insK_nil (d n : Nat) (x : Row) (k : RT → Option R) : RT.insK (d + 1) .nil n x k = bif Nat.beq n 0 then k (.node .nil (some x) .nil) else bif Nat.beq (n % 2) 1 then RT.insK d .nil (n / 2) x fun l => k (.node l none .nil) else RT.insK d .nil (n / 2 - 1) x fun r => k (.node .nil none r) := by
  show @Bool.rec (fun _ => Option R) (@Bool.rec (fun _ => Option R) (RT.insK d .nil (n / 2 - 1) x fun r => k (.node .nil none r)) (RT.insK d .nil (n / 2) x fun l => k (.node l none .nil)) (Nat.beq (n % 2) 1)) (k (.node .nil (some x) .nil)) (Nat.beq n 0) = _
  cases Nat.beq n 0 <;> cases Nat.beq (n % 2) 1 <;> rfl
theorem RT.insK_node (d : Nat) (l r : RT) (v : Option Row) (n : Nat) (x : Row) (k : RT → Option R) : RT.insK (d + 1) (.node l v r) n x k = bif Nat.beq n 0 then k (.node l (some x) r) else bif Nat.beq (n % 2) 1 then RT.insK d l (n / 2) x fun l => k (.node l v r) else RT.insK d r (n / 2 - 1) x fun r => k (.node l v r) := by
  show @Bool.rec (fun _ => Option R) (@Bool.rec (fun _ => Option R) (RT.insK d r (n / 2 - 1) x fun r => k (.node l v r)) (RT.insK d l (n / 2) x fun l => k (.node l v r)) (Nat.beq (n % 2) 1)) (k (.node l (some x) r)) (Nat.beq n 0) = _
  cases Nat.beq n 0 <;> cases Nat.beq (n % 2) 1 <;> rfl
theorem RT.insK_eq : ∀ (d : Nat) (t : RT) (n : Nat) (x : Row) (k : RT → Option R), RT.insK d t n x k = k (RT.ins d t n x)
  | 0, t, _, _, k => by simp only [RT.ins]; rfl
  | d + 1, .nil, n, x, k => by
    simp only [RT.insK_nil, RT.ins, RT.insK_eq d]
    cases Nat.beq n 0 <;> cases Nat.beq (n % 2) 1 <;> rfl
  | d + 1, .node l v r, n, x, k => by
    simp only [RT.insK_node, RT.ins, RT.insK_eq d]
    cases Nat.beq n 0 <;> cases Nat.beq (n % 2) 1 <;> rfl
end
theorem RT.get_ins : ∀ (d : Nat) (t : RT) (n m : Nat) (x : Row), n < d → (RT.ins d t n x).get m = if m = n then some x else t.get m
  | 0, t, n, m, x, h => by omega
  | d + 1, t, n, m, x, h => by
    have go : ∀ (l r : RT) (v : Option Row), (∀ k, (RT.node l v r).get k = t.get k ∨ (t = .nil ∧ l = .nil ∧ r = .nil ∧ v = none)) →
        (RT.get (bif Nat.beq n 0 then .node l (some x) r else bif Nat.beq (n % 2) 1 then .node (RT.ins d l (n / 2) x) v r else .node l v (RT.ins d r (n / 2 - 1) x)) m = if m = n then some x else (RT.node l v r).get m) := by
      intro l r v _
      cases h0 : Nat.beq n 0 with
      | true =>
        have := Nat.eq_of_beq_eq_true h0
        subst this
        simp only [cond_true, RT.get_node]
        by_cases e : m = 0
        · subst e; rfl
        · rw [if_neg e, beq_false e, cond_false, cond_false]
      | false =>
        have a0 : n ≠ 0 := fun e => by subst e; simp at h0
        simp only [cond_false]
        cases h1 : Nat.beq (n % 2) 1 with
        | true =>
          have a1 := Nat.eq_of_beq_eq_true h1
          simp only [cond_true, RT.get_node]
          by_cases e : m = n
          · subst e
            rw [if_pos rfl, h0, h1, cond_false, cond_true, RT.get_ins d l _ _ x (by omega), if_pos rfl]
          · rw [if_neg e]
            cases h2 : Nat.beq m 0 with
            | true => rfl
            | false =>
              have b0 : m ≠ 0 := fun e => by subst e; simp at h2
              cases h3 : Nat.beq (m % 2) 1 with
              | true =>
                have b1 := Nat.eq_of_beq_eq_true h3
                simp only [cond_false, cond_true]
                rw [RT.get_ins d l _ _ x (by omega), if_neg (by omega)]
              | false => rfl
        | false =>
          have a1 : n % 2 ≠ 1 := fun e => by rw [e] at h1; simp at h1
          simp only [cond_false, RT.get_node]
          by_cases e : m = n
          · subst e
            rw [if_pos rfl, h0, h1, cond_false, cond_false, RT.get_ins d r _ _ x (by omega), if_pos rfl]
          · rw [if_neg e]
            cases h2 : Nat.beq m 0 with
            | true => rfl
            | false =>
              have b0 : m ≠ 0 := fun e => by subst e; simp at h2
              cases h3 : Nat.beq (m % 2) 1 with
              | true => rfl
              | false =>
                have b1 : m % 2 ≠ 1 := fun e => by rw [e] at h3; simp at h3
                simp only [cond_false]
                rw [RT.get_ins d r _ _ x (by omega), if_neg (by omega)]
    cases t with
    | nil =>
      have := go .nil .nil none fun k => .inr ⟨rfl, rfl, rfl, rfl⟩
      have e : ∀ k, (RT.node .nil none .nil).get k = RT.nil.get k := fun k => by
        simp only [RT.get_node, RT.get_nil]
        cases Nat.beq k 0 <;> cases Nat.beq (k % 2) 1 <;> rfl
      rw [e] at this
      exact this
    | node l v r => exact go l r v fun k => .inl rfl
section
variable {R : Type}
def buildK : List (Nat × Row) → (RT → Option R) → Option R
  | [], k => k .nil
  | p :: l, k => buildK l fun T => RT.insK (p.1 + 1) T p.1 p.2 k
theorem buildK_some {r : R} : ∀ (l : List (Nat × Row)) (k : RT → Option R), buildK l k = some r → ∃ T, k T = some r ∧ ∀ n, T.get n = find l n
  | [], k, h => ⟨_, h, fun n => rfl⟩
  | (i, x) :: l, k, h => by
    simp only [buildK] at h
    obtain ⟨T, h1, h2⟩ := buildK_some l _ h
    rw [RT.insK_eq] at h1
    refine ⟨_, h1, fun n => ?_⟩
    rw [RT.get_ins _ _ _ _ _ (Nat.lt_succ_self _), h2]
    simp only [find]
    by_cases e : n = i
    · subst e; rw [if_pos rfl]; simp
    · rw [if_neg e, beq_false (Ne.symm e), cond_false]
/-- The rows that names reach. -/
def reachK (T : RT) : Nat → List Nat → List (Nat × Row) → RT → (List (Nat × Row) → RT → Option R) → Option R
  | fuel + 1, n :: todo, acc, A, k =>
    match A.get n with
    | some _ => reachK T fuel todo acc A k
    | none => match T.get n with
      | none => reachK T fuel todo acc A k
      | some row => RT.insK (n + 1) A n row fun A' => reachK T fuel (rowBears row todo) ((n, row) :: acc) A' k
  | _, _, acc, A, k => k acc A
theorem reachK_some {T : RT} {r : R} : ∀ (fuel : Nat) (todo : List Nat) (acc : List (Nat × Row)) (A : RT) (k : List (Nat × Row) → RT → Option R), reachK T fuel todo acc A k = some r → (∀ n, A.get n = find acc n) → (∀ n x, find acc n = some x → T.get n = some x) →
    ∃ acc' A', k acc' A' = some r ∧ (∀ n, A'.get n = find acc' n) ∧ ∀ n x, find acc' n = some x → T.get n = some x
  | 0, todo, acc, A, k, h, h1, h2 => ⟨acc, A, by cases todo <;> exact h, h1, h2⟩
  | fuel + 1, [], acc, A, k, h, h1, h2 => ⟨acc, A, h, h1, h2⟩
  | fuel + 1, n :: todo, acc, A, k, h, h1, h2 => by
    simp only [reachK] at h
    split at h
    · exact reachK_some fuel todo acc A k h h1 h2
    · split at h
      · exact reachK_some fuel todo acc A k h h1 h2
      · rename_i row hrow
        rw [RT.insK_eq] at h
        refine reachK_some fuel _ _ _ k h (fun m => ?_) (fun m x hx => ?_)
        · rw [RT.get_ins _ _ _ _ _ (Nat.lt_succ_self _), h1]
          simp only [find]
          by_cases e : m = n
          · subst e; rw [if_pos rfl]; simp
          · rw [if_neg e, beq_false (Ne.symm e), cond_false]
        · simp only [find] at hx
          cases hb : Nat.beq n m with
          | true =>
            rw [hb, cond_true] at hx
            have := Nat.eq_of_beq_eq_true hb
            subst this; rw [hrow]; exact hx
          | false => rw [hb, cond_false] at hx; exact h2 m x hx
def restK (A : RT) : List (Nat × Row) → (List (Nat × Row) → Option R) → Option R
  | [], k => k []
  | p :: l, k =>
    match A.get p.1 with
    | none => restK A l fun t => k (p :: t)
    | some _ => restK A l k
theorem restK_some {A : RT} {r : R} : ∀ (l : List (Nat × Row)) (k : List (Nat × Row) → Option R), restK A l k = some r → ∃ rest, k rest = some r ∧ ∀ n, find rest n = match A.get n with | some _ => none | none => find l n
  | [], k, h => ⟨_, h, fun n => by simp only [find]; cases A.get n <;> rfl⟩
  | (i, x) :: l, k, h => by
    simp only [restK] at h
    split at h
    · rename_i ha
      obtain ⟨rest, h1, h2⟩ := restK_some l _ h
      refine ⟨_, h1, fun n => ?_⟩
      simp only [find, h2]
      by_cases e : n = i
      · subst e; simp [ha]
      · rw [beq_false (Ne.symm e), cond_false, cond_false]
    · rename_i y ha
      obtain ⟨rest, h1, h2⟩ := restK_some l _ h
      refine ⟨rest, h1, fun n => ?_⟩
      rw [h2]
      simp only [find]
      by_cases e : n = i
      · subst e; simp [ha]
      · rw [beq_false (Ne.symm e), cond_false]
/-- The rows that names reach, and the others. -/
def partT (m : List (Nat × Row)) (ns : List Nat) (k : List (Nat × Row) → List (Nat × Row) → Option R) : Option R :=
  buildK m fun T => reachK T 100000 ns [] .nil fun acc A => restK A m fun rest => k acc rest
theorem partT_some {m : List (Nat × Row)} {ns : List Nat} {k : List (Nat × Row) → List (Nat × Row) → Option R} {r : R} (h : partT m ns k = some r) :
    ∃ acc rest, k acc rest = some r ∧ (∀ n x, find acc n = some x → find m n = some x) ∧ ∀ n, find rest n = match find acc n with | some _ => none | none => find m n := by
  unfold partT at h
  obtain ⟨T, h1, h2⟩ := buildK_some _ _ h
  obtain ⟨acc, A, h3, h4, h5⟩ := reachK_some _ _ _ _ _ h1 (fun n => rfl) (fun n x e => by simp [find] at e)
  obtain ⟨rest, h6, h7⟩ := restK_some _ _ h3
  exact ⟨acc, rest, h6, fun n x e => by rw [← h2]; exact h5 n x e, fun n => by rw [h7, h4]⟩
def appK : List (Nat × Row) → List (Nat × Row) → (List (Nat × Row) → Option R) → Option R
  | [], l, k => k l
  | x :: xs, l, k => appK xs l fun t => k (x :: t)
theorem appK_eq : ∀ (a l : List (Nat × Row)) (k : List (Nat × Row) → Option R), appK a l k = k (a ++ l)
  | [], l, k => rfl
  | x :: xs, l, k => by simp only [appK, appK_eq xs]; rfl
/-- What is left of a call's memory: what its result, and the rows that it was handed, reach; the others' rows behind it. -/
def gcK (acc rest : List (Nat × Row)) (k : AV → AS → Option R) (v : AV) (st : AS) : Option R :=
  match namesN 6 v (rowNames acc) with
  | [] => k v ⟨st.next, rest⟩
  | n :: ns => partT st.mem (n :: ns) fun kept _ => appK kept rest fun m => k v ⟨st.next, m⟩
end
theorem find_append (a b : List (Nat × Row)) (n : Nat) : find (a ++ b) n = match find a n with | some x => some x | none => find b n := by
  induction a with
  | nil => rfl
  | cons p a ih =>
    obtain ⟨i, x⟩ := p
    simp only [List.cons_append, find]
    cases Nat.beq i n with
    | true => rfl
    | false => simpa using ih
theorem gcK_some {R : Type} {acc rest : List (Nat × Row)} {k : AV → AS → Option R} {v : AV} {st : AS} {r : R} (h : gcK acc rest k v st = some r) :
    ∃ kept m, k v ⟨st.next, m⟩ = some r ∧ (∀ n x, find kept n = some x → find st.mem n = some x) ∧ ∀ n, find m n = match find kept n with | some x => some x | none => find rest n := by
  unfold gcK at h
  split at h
  · exact ⟨[], rest, h, fun n x e => by simp [find] at e, fun n => rfl⟩
  · obtain ⟨kept, rest', h1, h2, _⟩ := partT_some h
    rw [appK_eq] at h1
    exact ⟨kept, _, h1, h2, fun n => find_append _ _ _⟩

/-- Does a piece of code make nothing new, and call nothing? -/
def leafOp : Op → Bool
  | .move _ | .assign _ | .pick _ _ _ | .binOp _ _ _ _ _ | .load _ _ | .fieldAddr _ _ _ | .extract _ _ | .indexAddr _ _ _ | .store _ _ _ | .index _ _ _ | .field _ _ _ | .nilCheck _ | .convert _ _ _ | .unOp _ _ _ | .lookup _ _ _ _ => true
  | _ => false
def leafB : Code → Bool
  | .region _ ops _ => ops.toList.all fun o => leafOp o.op
  | .seq a b => leafB a && leafB b
  | .cond _ a b => leafB a && leafB b
  | .block _ b => leafB b
  | .loop b => leafB b
  | .scope b => leafB b
  | _ => true
end
end Go.Sv
