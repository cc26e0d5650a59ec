/- An evaluator for the model's code over an abstract memory, first part: values, memory, the relation to a world. -/
import Derived.Calls
import Derived.Orders
import Derived.LoopN
import Derived.Scope
import Derived.Below
import Derived.KernelRfl
namespace Go.Ev
open Go.RowKit

/-! ### values without addresses -/
def plainN : Nat → Value → Bool
  | 0, _ => false
  | n + 1, v => match v with
    | .bool _ | .int _ _ | .float _ _ | .complex _ _ _ | .string _ | .nilFunc | .nilIface => true
    | .pointer none | .slice none _ _ | .map none | .chan none => true
    | .iface _ v => plainN n v
    | .agg cs => cs.toList.all (plainN n)
    | .tuple cs => cs.toList.all (plainN n)
    | .func fn first captured => (match fn with | .func _ => true | _ => false) && (first.toList.all (plainN n) && captured.toList.all (plainN n))
    | _ => false
def plain (v : Value) : Bool := plainN 5 v

/-! ### the abstract memory -/
structure Row where
  c : List Value
  own : Bool
  exact : Bool
structure AS where
  next : Nat
  mem : List (Nat × Row)

def find : List (Nat × Row) → Nat → Option Row
  | [], _ => none
  | (k, o) :: r, n => bif Nat.beq k n then some o else find r n
def upd : List (Nat × Row) → Nat → Row → List (Nat × Row)
  | [], _, _ => []
  | (k, o) :: r, n, x => bif Nat.beq k n then (k, x) :: r else (k, o) :: upd r n x
def setAll : List Value → Nat → List Value → List Value
  | c, _, [] => c
  | c, off, v :: vs => setAll (c.set off v) (off + 1) vs

theorem beqT (k : Nat) : Nat.beq k k = true := Nat.beq_refl k
theorem beqF {k n : Nat} (h : k ≠ n) : Nat.beq k n = false := by
  cases e : Nat.beq k n
  · rfl
  · exact absurd (Nat.eq_of_beq_eq_true e) h

theorem find_upd (m : List (Nat × Row)) (n : Nat) (x : Row) (r : Row) (h : find m n = some r) (n' : Nat) :
    find (upd m n x) n' = if n' = n then some x else find m n' := by
  induction m with
  | nil => simp [find] at h
  | cons p m ih =>
    obtain ⟨k, o⟩ := p
    simp only [find] at h
    by_cases hk : k = n
    · subst hk
      have e : Nat.beq k k = true := beqT k
      simp only [upd, e, cond_true, find]
      by_cases hn : n' = k
      · subst hn; simp
      · have e2 : Nat.beq k n' = false := beqF (Ne.symm hn)
        simp [e2, hn]
    · have e : Nat.beq k n = false := beqF hk
      simp only [e, cond_false] at h
      have ih' := ih h
      simp only [upd, e, cond_false, find]
      by_cases hn : k = n'
      · subst hn
        have e2 : Nat.beq k k = true := beqT k
        simp [hk]
      · have e2 : Nat.beq k n' = false := beqF hn
        simp [e2, ih']

/-! ### the relation -/
structure Loc where
  blk : Nat
  shift : Nat
  exact : Bool
  total : Nat
abbrev Inj := Nat → Option Loc
def Inj.le (ι ι' : Inj) : Prop := ∀ n l, ι n = some l → ι' n = some l
theorem Inj.le_refl (ι : Inj) : Inj.le ι ι := fun _ _ h => h
theorem Inj.le_trans {a b c : Inj} (h : Inj.le a b) (k : Inj.le b c) : Inj.le a c := fun n l e => k n l (h n l e)

inductive VRel (ι : Inj) : Value → Value → Prop where
  | plain (v : Value) : plain v = true → VRel ι v v
  | ptr (n off : Nat) (l : Loc) : ι n = some l → VRel ι (.pointer (some ⟨n, off, none⟩)) (.pointer (some ⟨l.blk, l.shift + off, none⟩))
  | slice (n off len cap cap' : Nat) (l : Loc) : ι n = some l → (l.exact = true → cap' = cap) → cap ≤ cap' →
      VRel ι (.slice (some ⟨n, off, none⟩) len cap) (.slice (some ⟨l.blk, l.shift + off, none⟩) len cap')
  | agg (xs ys : List Value) : xs.length = ys.length → (∀ (i : Nat) (x y : Value), xs[i]? = some x → ys[i]? = some y → VRel ι x y) → VRel ι (.agg ⟨xs⟩) (.agg ⟨ys⟩)
  | tuple (xs ys : List Value) : xs.length = ys.length → (∀ (i : Nat) (x y : Value), xs[i]? = some x → ys[i]? = some y → VRel ι x y) → VRel ι (.tuple ⟨xs⟩) (.tuple ⟨ys⟩)
  | iface (t : TypeId) (x y : Value) : VRel ι x y → VRel ι (.iface t x) (.iface t y)
  | func (f : FuncId) (xs ys zs us : List Value) : xs.length = ys.length → (∀ (i : Nat) (x y : Value), xs[i]? = some x → ys[i]? = some y → VRel ι x y) →
      zs.length = us.length → (∀ (i : Nat) (x y : Value), zs[i]? = some x → us[i]? = some y → VRel ι x y) → VRel ι (.func (.func f) ⟨xs⟩ ⟨zs⟩) (.func (.func f) ⟨ys⟩ ⟨us⟩)

theorem VRel.mono {ι ι' : Inj} (h : Inj.le ι ι') {x y : Value} (r : VRel ι x y) : VRel ι' x y := by
  induction r with
  | plain v hv => exact .plain v hv
  | ptr n off l hl => exact .ptr n off l (h _ _ hl)
  | slice n off len cap cap' l hl h1 h2 => exact .slice n off len cap cap' l (h _ _ hl) h1 h2
  | agg xs ys hl _ ih => exact .agg xs ys hl ih
  | tuple xs ys hl _ ih => exact .tuple xs ys hl ih
  | iface t x y _ ih => exact .iface t x y ih
  | func f xs ys zs us hl _ hl2 _ ih ih2 => exact .func f xs ys zs us hl ih hl2 ih2

def LRel (ι : Inj) (xs ys : List Value) : Prop := xs.length = ys.length ∧ ∀ (i : Nat) (x y : Value), xs[i]? = some x → ys[i]? = some y → VRel ι x y

theorem LRel.mono {ι ι' : Inj} (h : Inj.le ι ι') {xs ys : List Value} (r : LRel ι xs ys) : LRel ι' xs ys :=
  ⟨r.1, fun i x y hx hy => (r.2 i x y hx hy).mono h⟩

theorem LRel.nil (ι : Inj) : LRel ι [] [] := ⟨rfl, fun i x y hx _ => by simp at hx⟩

theorem LRel.cons {ι : Inj} {x y : Value} {xs ys : List Value} (h : VRel ι x y) (r : LRel ι xs ys) : LRel ι (x :: xs) (y :: ys) := by
  refine ⟨by simp [r.1], fun i a b ha hb => ?_⟩
  cases i with
  | zero => simp at ha hb; subst ha; subst hb; exact h
  | succ i => simp at ha hb; exact r.2 i a b ha hb

theorem LRel.append {ι : Inj} {xs ys us vs : List Value} (h : LRel ι xs ys) (r : LRel ι us vs) : LRel ι (xs ++ us) (ys ++ vs) := by
  induction xs generalizing ys with
  | nil => cases ys with
    | nil => simpa using r
    | cons y ys => have := h.1; simp at this
  | cons x xs ih => cases ys with
    | nil => have := h.1; simp at this
    | cons y ys =>
      have h1 : VRel ι x y := h.2 0 x y rfl rfl
      have h2 : LRel ι xs ys := ⟨by have := h.1; simpa using this, fun i a b ha hb => h.2 (i + 1) a b (by simpa using ha) (by simpa using hb)⟩
      simpa using LRel.cons h1 (ih h2)

theorem LRel.get {ι : Inj} {xs ys : List Value} (h : LRel ι xs ys) {i : Nat} {x : Value} (hx : xs[i]? = some x) : ∃ y, ys[i]? = some y ∧ VRel ι x y := by
  have hlt : i < xs.length := (List.getElem?_eq_some_iff.1 hx).1
  have hlt' : i < ys.length := h.1 ▸ hlt
  exact ⟨ys[i], by simp [hlt'], h.2 i x _ hx (by simp [hlt'])⟩

theorem LRel.uncons {ι : Inj} {x : Value} {xs ys : List Value} (h : LRel ι (x :: xs) ys) : ∃ y ys', ys = y :: ys' ∧ VRel ι x y ∧ LRel ι xs ys' := by
  cases ys with
  | nil => have := h.1; simp at this
  | cons y ys => exact ⟨y, ys, rfl, h.2 0 x y rfl rfl, by have := h.1; simpa using this, fun i a b ha hb => h.2 (i + 1) a b (by simpa using ha) (by simpa using hb)⟩

theorem LRel.eq_of {ι : Inj} {xs ys : List Value} (h : LRel ι xs ys) (hp : ∀ (i : Nat) (x y : Value), xs[i]? = some x → ys[i]? = some y → x = y) : xs = ys := by
  refine List.ext_getElem? fun i => ?_
  cases hx : xs[i]? with
  | none =>
    have : ys.length ≤ i := by have := List.getElem?_eq_none_iff.1 hx; rw [← h.1]; exact this
    simp [List.getElem?_eq_none this]
  | some x =>
    obtain ⟨y, hy, _⟩ := h.get hx
    rw [hy, hp i x y hx hy]

/-- What is plain is related to itself alone. -/
theorem VRel.eq_of_plainN {ι : Inj} {x y : Value} (r : VRel ι x y) : ∀ n, plainN n x = true → y = x := by
  induction r with
  | plain v hv => intros; rfl
  | ptr n off l hl => intro k hk; cases k <;> simp [plainN] at hk
  | slice n off len cap cap' l hl h1 h2 => intro k hk; cases k <;> simp [plainN] at hk
  | agg xs ys hl hr ih =>
    intro k hk
    cases k with
    | zero => simp [plainN] at hk
    | succ k =>
      simp only [plainN, List.all_eq_true] at hk
      have : xs = ys := LRel.eq_of ⟨hl, hr⟩ fun i x y hx hy => (ih i x y hx hy k (hk x (List.mem_of_getElem? hx))).symm
      rw [this]
  | tuple xs ys hl hr ih =>
    intro k hk
    cases k with
    | zero => simp [plainN] at hk
    | succ k =>
      simp only [plainN, List.all_eq_true] at hk
      have : xs = ys := LRel.eq_of ⟨hl, hr⟩ fun i x y hx hy => (ih i x y hx hy k (hk x (List.mem_of_getElem? hx))).symm
      rw [this]
  | iface t x y _ ih =>
    intro k hk
    cases k with
    | zero => simp [plainN] at hk
    | succ k => simp only [plainN] at hk; rw [ih k hk]
  | func f xs ys zs us hl hr hl2 hr2 ih ih2 =>
    intro k hk
    cases k with
    | zero => simp [plainN] at hk
    | succ k =>
      simp only [plainN, Bool.and_eq_true, List.all_eq_true, true_and] at hk
      have e1 : xs = ys := LRel.eq_of ⟨hl, hr⟩ fun i x y hx hy => (ih i x y hx hy k (hk.1 x (List.mem_of_getElem? hx))).symm
      have e2 : zs = us := LRel.eq_of ⟨hl2, hr2⟩ fun i x y hx hy => (ih2 i x y hx hy k (hk.2 x (List.mem_of_getElem? hx))).symm
      rw [e1, e2]

theorem VRel.eq_of_plain {ι : Inj} {x y : Value} (r : VRel ι x y) (h : Ev.plain x = true) : y = x := r.eq_of_plainN 5 h

/-- A value's cells. -/
theorem VRel.cells {ι : Inj} {x y : Value} (r : VRel ι x y) : LRel ι x.cells.toList y.cells.toList := by
  cases r with
  | plain v hv =>
    refine ⟨rfl, fun i a b ha hb => ?_⟩
    rw [ha] at hb
    obtain rfl := Option.some.inj hb
    refine .plain _ ?_
    cases x with
    | agg cs =>
      simp only [Ev.plain, plainN, List.all_eq_true] at hv
      have := hv a (List.mem_of_getElem? ha)
      exact plain_up this
    | _ => 
      simp only [Value.cells] at ha
      cases i with
      | zero => simp at ha; subst ha; exact hv
      | succ i => simp at ha
  | agg xs ys hl hr => exact ⟨hl, hr⟩
  | ptr n off l hl => exact LRel.cons (.ptr n off l hl) (LRel.nil ι)
  | slice n off len cap cap' l hl h1 h2 => exact LRel.cons (.slice n off len cap cap' l hl h1 h2) (LRel.nil ι)
  | tuple xs ys hl hr => exact LRel.cons (.tuple xs ys hl hr) (LRel.nil ι)
  | iface t x y h => exact LRel.cons (.iface t x y h) (LRel.nil ι)
  | func f xs ys zs us hl hr hl2 hr2 => exact LRel.cons (.func f xs ys zs us hl hr hl2 hr2) (LRel.nil ι)
where
  plain_up {a : Value} (h : plainN 4 a = true) : plainN 5 a = true := plainN_mono 4 a h
  plainN_mono : ∀ (n : Nat) (v : Value), plainN n v = true → plainN (n + 1) v = true
    | 0, _, h => by simp [plainN] at h
    | n + 1, v, h => by
      cases v with
      | agg cs => simp only [plainN, List.all_eq_true] at h ⊢; exact fun x hx => plainN_mono n x (h x hx)
      | tuple cs => simp only [plainN, List.all_eq_true] at h ⊢; exact fun x hx => plainN_mono n x (h x hx)
      | iface t v => simp only [plainN] at h ⊢; exact plainN_mono n v h
      | func fn a b =>
        simp only [plainN, Bool.and_eq_true, List.all_eq_true] at h ⊢
        exact ⟨h.1, fun x hx => plainN_mono n x (h.2.1 x hx), fun x hx => plainN_mono n x (h.2.2 x hx)⟩
      | pointer a => cases a <;> simp [plainN] at h ⊢
      | slice a l c => cases a <;> simp [plainN] at h ⊢
      | map a => cases a <;> simp [plainN] at h ⊢
      | chan a => cases a <;> simp [plainN] at h ⊢
      | _ => simp [plainN]
end Go.Ev
