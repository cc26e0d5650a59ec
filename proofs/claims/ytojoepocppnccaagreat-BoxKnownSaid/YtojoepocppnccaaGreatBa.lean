/- The evaluator and the contracts that the walk leans on, part Ba: Sv0, Sv1, Sv2, Sv3, Sv4, Sv5, Sv6. -/
import Derived.Calls
import Derived.Orders
import Derived.LoopN
import Derived.Scope
import Derived.Below
import Derived.KernelRfl
import Derived.Laws.Sem
import Derived.MapKept
namespace Go.Sv
open Go.RowKit

/-! ### values -/
/-- A value of the evaluator. 'arr w n f' stands, in a list of cells, for n elements of w cells each. -/
inductive AV where
  | any
  | bool (b : Bool)
  | int (k : IntKind) (n : Int)
  | str (s : List UInt8)
  | raw (v : Value)
  | ptr (n : Nat) (p : List (Nat × Nat × Nat)) (o : Nat)
  | sptr (c : List AV) (o : Nat)
  | slc (n : Nat) (p : List (Nat × Nat × Nat)) (o i w len cap : Nat)
  | lst (w : Nat) (f : Nat → List AV) (len : Nat) (us : List (Nat × List AV))
  | agg (c : List AV)
  | tup (c : List AV)
  | ifc (t : TypeId) (x : AV)
  | fn (f : FuncId) (a b : List AV)
  | mp (n : Nat)
  | arr (w n : Nat) (f : Nat → List AV) (us : List (Nat × List AV))
  | gh (g : Nat)

/-- An element: of those that were set, the newest one, else as it was at first. -/
def elt : List (Nat × List AV) → (Nat → List AV) → Nat → List AV
  | [], f, i => f i
  | (j, c) :: us, f, i => bif Nat.beq i j then c else elt us f i

/-- How many cells it stands for. -/
def width : AV → Nat
  | .arr w n _ _ => n * w
  | _ => 1
def cw : List AV → Nat
  | [] => 0
  | x :: xs => width x + cw xs
theorem cw_append : ∀ (a b : List AV), cw (a ++ b) = cw a + cw b
  | [], b => by simp [cw]
  | x :: a, b => by simp [cw, cw_append a b, Nat.add_assoc]

/-- How far a place lies behind its row's beginning. -/
def plen : List (Nat × Nat × Nat) → Nat
  | [] => 0
  | (o, i, w) :: p => o + i * w + plen p
theorem plen_append : ∀ (a b : List (Nat × Nat × Nat)), plen (a ++ b) = plen a + plen b
  | [], b => by simp [plen]
  | (o, i, w) :: a, b => by simp [plen, plen_append a b, Nat.add_assoc]

/-- Values that bear no address and are one cell. -/
def rawOk : Value → Bool
  | .float _ _ | .complex _ _ _ | .nilFunc | .nilIface => true
  | .pointer none | .slice none _ _ | .map none | .chan none => true
  | _ => false

/-! ### what they are in a world -/
/-- Where rows lie ('some none': a slice that may be nil, without cells), blocks that stay, the values of ghosts, how many cells blocks have. -/
structure Kap where
  loc : Nat → Option (Option Nat)
  st : Nat → Option (List Value)
  gh : Nat → Value
  sz : Nat → Option Nat
structure Kap.le (κ κ' : Kap) : Prop where
  loc : ∀ n x, κ.loc n = some x → κ'.loc n = some x
  st : ∀ b cs, κ.st b = some cs → κ'.st b = some cs
  gh : κ'.gh = κ.gh
  sz : ∀ b s, κ.sz b = some s → κ'.sz b = some s
theorem Kap.le_refl (κ : Kap) : κ.le κ := ⟨fun _ _ h => h, fun _ _ h => h, rfl, fun _ _ h => h⟩
theorem Kap.le_trans {a b c : Kap} (h : a.le b) (k : b.le c) : a.le c :=
  ⟨fun n x e => k.loc n x (h.loc n x e), fun n x e => k.st n x (h.st n x e), k.gh.trans h.gh, fun n x e => k.sz n x (h.sz n x e)⟩

/-- Values that are one cell. -/
def oneV : Value → Bool
  | .agg _ | .tuple _ => false
  | _ => true

/-- No names of rows: what lies in lists that stay, and in arrays, bears none. -/
def Kap.nl (κ : Kap) : Kap := ⟨fun _ => none, κ.st, κ.gh, κ.sz⟩
theorem Kap.le.nl {κ κ' : Kap} (h : κ.le κ') : κ.nl.le κ'.nl := ⟨fun n x e => by simp [Kap.nl] at e, h.st, h.gh, h.sz⟩
theorem Kap.nl_le (κ : Kap) : κ.nl.le κ := ⟨fun n x e => by simp [Kap.nl] at e, fun _ _ h => h, rfl, fun _ _ h => h⟩
theorem Kap.nl_nl (κ : Kap) : κ.nl.nl = κ.nl := rfl

inductive CRel : Kap → List AV → List Value → Prop where
  | nil {κ} : CRel κ [] []
  | any {κ xs ys} (y : Value) : CRel κ xs ys → CRel κ (.any :: xs) (y :: ys)
  | bool {κ xs ys} (b : Bool) : CRel κ xs ys → CRel κ (.bool b :: xs) (.bool b :: ys)
  | int {κ xs ys} (k : IntKind) (n : Int) : CRel κ xs ys → CRel κ (.int k n :: xs) (.int k n :: ys)
  | str {κ xs ys} (s : List UInt8) : CRel κ xs ys → CRel κ (.str s :: xs) (.string ⟨s.toArray⟩ :: ys)
  | raw {κ xs ys} (v : Value) : CRel κ xs ys → CRel κ (.raw v :: xs) (v :: ys)
  | ptr {κ xs ys} (n p o b : Nat) (ps : List (Nat × Nat × Nat)) : κ.loc n = some (some b) → p = plen ps + o → CRel κ xs ys → CRel κ (.ptr n ps o :: xs) (.pointer (some ⟨b, p, none⟩) :: ys)
  | sptr {κ xs ys} (c : List AV) (cs zs : List Value) (b off p o : Nat) : κ.st b = some cs → zs = (cs.drop off).take (cw c) → CRel κ.nl c zs → p = off + o → CRel κ xs ys → CRel κ (.sptr c o :: xs) (.pointer (some ⟨b, p, none⟩) :: ys)
  | slc {κ xs ys} (n : Nat) (ps : List (Nat × Nat × Nat)) (o i w len cap b cap' : Nat) (a : Addr) : κ.loc n = some (some b) → (cap' = 0 ∨ (a = ⟨b, plen ps + o + i * w, none⟩ ∧ ∃ s, κ.sz b = some s ∧ plen ps + o + i * w + cap' * w ≤ s)) → cap ≤ cap' → len ≤ cap' → CRel κ xs ys →
      CRel κ (.slc n ps o i w len cap :: xs) (.slice (some a) len cap' :: ys)
  | slc0 {κ xs ys} (n o i w : Nat) (ps : List (Nat × Nat × Nat)) : κ.loc n = some none → CRel κ xs ys → CRel κ (.slc n ps o i w 0 0 :: xs) (.slice none 0 0 :: ys)
  | lst {κ xs ys} (w len b off cap : Nat) (f : Nat → List AV) (us : List (Nat × List AV)) (cs : List Value) : κ.st b = some cs → off + len * w ≤ cs.length → len ≤ cap → (∀ z ∈ (cs.drop off).take (len * w), oneV z = true) → (∀ i, i < len → cw (elt us f i) = w) →
      (∀ i, i < len → CRel κ.nl (elt us f i) ((cs.drop (off + i * w)).take w)) → CRel κ xs ys → CRel κ (.lst w f len us :: xs) (.slice (some ⟨b, off, none⟩) len cap :: ys)
  | lst0 {κ xs ys} (w cap : Nat) (f : Nat → List AV) (us : List (Nat × List AV)) (a : Option Addr) : CRel κ xs ys → CRel κ (.lst w f 0 us :: xs) (.slice a 0 cap :: ys)
  | agg {κ xs ys} (c : List AV) (zs : List Value) : CRel κ c zs → CRel κ xs ys → CRel κ (.agg c :: xs) (.agg ⟨zs⟩ :: ys)
  | tup {κ xs ys} (c : List AV) (zs : List Value) : CRel κ c zs → CRel κ xs ys → CRel κ (.tup c :: xs) (.tuple ⟨zs⟩ :: ys)
  | ifc {κ xs ys} (t : TypeId) (x : AV) (y : Value) : CRel κ [x] [y] → CRel κ xs ys → CRel κ (.ifc t x :: xs) (.iface t y :: ys)
  | fn {κ xs ys} (f : FuncId) (a b : List AV) (as bs : List Value) : CRel κ a as → CRel κ b bs → CRel κ xs ys → CRel κ (.fn f a b :: xs) (.func (.func f) ⟨as⟩ ⟨bs⟩ :: ys)
  | mp {κ xs ys} (n b : Nat) : κ.loc n = some (some b) → CRel κ xs ys → CRel κ (.mp n :: xs) (.map (some b) :: ys)
  | arr {κ xs ys vs} (w n : Nat) (f : Nat → List AV) (us : List (Nat × List AV)) (zs : List Value) : zs.length = n * w → (∀ z ∈ zs, oneV z = true) → (∀ i, i < n → cw (elt us f i) = w) → (∀ i, i < n → CRel κ.nl (elt us f i) ((zs.drop (i * w)).take w)) →
      vs = zs ++ ys → CRel κ xs ys → CRel κ (.arr w n f us :: xs) vs
  | gh {κ xs ys} (g : Nat) (y : Value) : y = κ.gh (g + 1) → CRel κ xs ys → CRel κ (.gh g :: xs) (y :: ys)

abbrev VRel (κ : Kap) (x : AV) (y : Value) : Prop := CRel κ [x] [y]

theorem CRel.mono {κ κ' : Kap} (h : κ.le κ') {xs : List AV} {ys : List Value} (r : CRel κ xs ys) : CRel κ' xs ys := by
  induction r generalizing κ' with
  | nil => exact .nil
  | any y _ ih => exact .any y (ih h)
  | bool b _ ih => exact .bool b (ih h)
  | int k n _ ih => exact .int k n (ih h)
  | str s _ ih => exact .str s (ih h)
  | raw v _ ih => exact .raw v (ih h)
  | ptr n p o b ps h1 h2 _ ih => exact .ptr n p o b ps (h.loc _ _ h1) h2 (ih h)
  | sptr c cs zs b off p o h1 h2 _ h4 _ ih1 ih2 => exact .sptr c cs zs b off p o (h.st _ _ h1) h2 (ih1 h.nl) h4 (ih2 h)
  | slc n ps o i w len cap b cap' a h1 h2 h3 h4 _ ih => exact .slc n ps o i w len cap b cap' a (h.loc _ _ h1) (h2.imp id fun ⟨e, s, a, c⟩ => ⟨e, s, h.sz _ _ a, c⟩) h3 h4 (ih h)
  | slc0 n o i w ps h1 _ ih => exact .slc0 n o i w ps (h.loc _ _ h1) (ih h)
  | lst w len b off cap f us' cs h1 h2 h3 ho h4 _ _ ih1 ih2 => exact .lst w len b off cap f us' cs (h.st _ _ h1) h2 h3 ho h4 (fun i hi => ih1 i hi h.nl) (ih2 h)
  | lst0 w cap f us' a _ ih => exact .lst0 w cap f us' a (ih h)
  | agg c zs _ _ ih1 ih2 => exact .agg c zs (ih1 h) (ih2 h)
  | tup c zs _ _ ih1 ih2 => exact .tup c zs (ih1 h) (ih2 h)
  | ifc t x y _ _ ih1 ih2 => exact .ifc t x y (ih1 h) (ih2 h)
  | fn f a b as bs _ _ _ ih1 ih2 ih3 => exact .fn f a b as bs (ih1 h) (ih2 h) (ih3 h)
  | mp n b h1 _ ih => exact .mp n b (h.loc _ _ h1) (ih h)
  | arr w n f us' zs h1 ho h2 _ h4 _ ih1 ih2 => exact .arr w n f us' zs h1 ho h2 (fun i hi => ih1 i hi h.nl) h4 (ih2 h)
  | gh g y h1 _ ih => exact .gh g y (by rw [h1, h.gh]) (ih h)

theorem CRel.length {κ : Kap} {xs : List AV} {ys : List Value} (r : CRel κ xs ys) : ys.length = cw xs := by
  induction r with
  | nil => rfl
  | arr w n f us' zs h1 ho h2 _ h4 _ ih1 ih2 => subst h4; simp [cw, width, h1, ih2]
  | agg c zs _ _ ih1 ih2 => simp [cw, width, ih2, Nat.add_comm]
  | tup c zs _ _ ih1 ih2 => simp [cw, width, ih2, Nat.add_comm]
  | ifc t x y _ _ ih1 ih2 => simp [cw, width, ih2, Nat.add_comm]
  | fn f a b as bs _ _ _ ih1 ih2 ih3 => simp [cw, width, ih3, Nat.add_comm]
  | sptr c cs zs b off p o h1 h2 _ h4 _ ih1 ih2 => simp [cw, width, ih2, Nat.add_comm]
  | lst w len b off cap f us' cs h1 h2 h3 ho h4 _ _ ih1 ih2 => simp [cw, width, ih2, Nat.add_comm]
  | _ => simp [cw, width, *, Nat.add_comm]

theorem CRel.append {κ : Kap} {xs us : List AV} {ys vs : List Value} (r : CRel κ xs ys) (q : CRel κ us vs) : CRel κ (xs ++ us) (ys ++ vs) := by
  induction r with
  | nil => exact q
  | any y _ ih => exact .any y (ih q)
  | bool b _ ih => exact .bool b (ih q)
  | int k n _ ih => exact .int k n (ih q)
  | str s _ ih => exact .str s (ih q)
  | raw v _ ih => exact .raw v (ih q)
  | ptr n p o b ps h1 h2 _ ih => exact .ptr n p o b ps h1 h2 (ih q)
  | sptr c cs zs b off p o h1 h2 h3 h4 _ _ ih2 => exact .sptr c cs zs b off p o h1 h2 h3 h4 (ih2 q)
  | slc n ps o i w len cap b cap' a h1 h2 h3 h4 _ ih => exact .slc n ps o i w len cap b cap' a h1 h2 h3 h4 (ih q)
  | slc0 n o i w ps h1 _ ih => exact .slc0 n o i w ps h1 (ih q)
  | lst w len b off cap f us' cs h1 h2 h3 ho h4 h5 _ _ ih2 => exact .lst w len b off cap f us' cs h1 h2 h3 ho h4 h5 (ih2 q)
  | lst0 w cap f us' a _ ih => exact .lst0 w cap f us' a (ih q)
  | agg c zs h1 _ _ ih2 => exact .agg c zs h1 (ih2 q)
  | tup c zs h1 _ _ ih2 => exact .tup c zs h1 (ih2 q)
  | ifc t x y h1 _ _ ih2 => exact .ifc t x y h1 (ih2 q)
  | fn f a b as bs h1 h2 _ _ _ ih3 => exact .fn f a b as bs h1 h2 (ih3 q)
  | mp n b h1 _ ih => exact .mp n b h1 (ih q)
  | arr w n f us' zs h1 ho h2 h3 h4 _ _ ih2 => exact .arr w n f us' zs h1 ho h2 h3 (by rw [h4, List.append_assoc]) (ih2 q)
  | gh g y h1 _ ih => exact .gh g y h1 (ih q)

theorem CRel.cons_inv {κ : Kap} {x : AV} {xs : List AV} {us : List Value} (r : CRel κ (x :: xs) us) : ∃ zs ys, us = zs ++ ys ∧ CRel κ [x] zs ∧ CRel κ xs ys := by
  cases r with
  | any y h => exact ⟨[_], _, rfl, .any y .nil, h⟩
  | bool b h => exact ⟨[_], _, rfl, .bool b .nil, h⟩
  | int k n h => exact ⟨[_], _, rfl, .int k n .nil, h⟩
  | str s h => exact ⟨[_], _, rfl, .str s .nil, h⟩
  | raw v h => exact ⟨[_], _, rfl, .raw v .nil, h⟩
  | ptr n p o b ps h1 h2 h => exact ⟨[_], _, rfl, .ptr n p o b ps h1 h2 .nil, h⟩
  | sptr c cs zs b off p o h1 h2 h3 h4 h => exact ⟨[_], _, rfl, .sptr c cs zs b off p o h1 h2 h3 h4 .nil, h⟩
  | slc n ps o i w len cap b cap' a h1 h2 h3 h4 h => exact ⟨[_], _, rfl, .slc n ps o i w len cap b cap' a h1 h2 h3 h4 .nil, h⟩
  | slc0 n o i w ps h1 h => exact ⟨[_], _, rfl, .slc0 n o i w ps h1 .nil, h⟩
  | lst w len b off cap f us' cs h1 h2 h3 ho h4 h5 h => exact ⟨[_], _, rfl, .lst w len b off cap f us' cs h1 h2 h3 ho h4 h5 .nil, h⟩
  | lst0 w cap f us' a h => exact ⟨[_], _, rfl, .lst0 w cap f us' a .nil, h⟩
  | agg c zs h1 h => exact ⟨[_], _, rfl, .agg c zs h1 .nil, h⟩
  | tup c zs h1 h => exact ⟨[_], _, rfl, .tup c zs h1 .nil, h⟩
  | ifc t x y h1 h => exact ⟨[_], _, rfl, .ifc t x y h1 .nil, h⟩
  | fn f a b as bs h1 h2 h => exact ⟨[_], _, rfl, .fn f a b as bs h1 h2 .nil, h⟩
  | mp n b h1 h => exact ⟨[_], _, rfl, .mp n b h1 .nil, h⟩
  | arr w n f us' zs h1 ho h2 h3 h4 h => exact ⟨zs, _, h4, .arr w n f us' zs h1 ho h2 h3 (by simp) .nil, h⟩
  | gh g y h1 h => exact ⟨[_], _, rfl, .gh g y h1 .nil, h⟩

theorem CRel.split {κ : Kap} : ∀ {xs us : List AV} {ws : List Value}, CRel κ (xs ++ us) ws → ∃ ys vs, ws = ys ++ vs ∧ CRel κ xs ys ∧ CRel κ us vs
  | [], us, ws, r => ⟨[], ws, rfl, .nil, r⟩
  | x :: xs, us, ws, r => by
    obtain ⟨zs, ys, rfl, h1, h2⟩ := r.cons_inv
    obtain ⟨y1, v1, rfl, h3, h4⟩ := CRel.split (xs := xs) h2
    exact ⟨zs ++ y1, v1, by simp, by simpa using h1.append h3, h4⟩

theorem CRel.split_at {κ : Kap} {xs us : List AV} {ws : List Value} (r : CRel κ (xs ++ us) ws) : CRel κ xs (ws.take (cw xs)) ∧ CRel κ us (ws.drop (cw xs)) := by
  obtain ⟨ys, vs, rfl, h1, h2⟩ := r.split
  have := h1.length
  refine ⟨?_, ?_⟩
  · rw [← this, List.take_left']; exact h1; rfl
  · rw [← this, List.drop_left']; exact h2; rfl

/-- Values that are one cell, whose shape is known. -/
def one : AV → Bool
  | .bool _ | .int _ _ | .str _ | .ptr _ _ _ | .sptr _ _ | .slc _ _ _ _ _ _ _ | .lst _ _ _ _ | .ifc _ _ | .fn _ _ _ | .mp _ => true
  | .raw v => rawOk v
  | _ => false
theorem oneV_of {κ : Kap} {x : AV} {y : Value} (r : VRel κ x y) (h : one x = true) : oneV y = true := by
  cases x with
  | raw v => cases r; simp only [one] at h; cases y <;> first | rfl | (simp [rawOk] at h; done)
  | _ => first | (simp [one] at h; done) | (cases r <;> rfl)

/-- A value's cells. -/
def cells : AV → List AV
  | .agg c => c
  | x => [x]
/-- Is it known what cells it has? -/
def celled : AV → Bool
  | .agg _ => true
  | x => one x
theorem cells_rel {κ : Kap} {x : AV} {y : Value} (r : VRel κ x y) (h : celled x = true) : CRel κ (cells x) y.cells.toList := by
  by_cases ho : one x = true
  · have hy := oneV_of r ho
    have e1 : cells x = [x] := by cases x <;> simp [one] at ho <;> rfl
    have e2 : y.cells.toList = [y] := by cases y <;> simp [oneV] at hy <;> rfl
    rw [e1, e2]; exact r
  · cases x with
    | agg c => cases r with | agg c zs h1 h2 => exact h1
    | _ => simp [celled, ho] at h
end Go.Sv
namespace Go.Sv
open Go.RowKit

/-! ### programs that touch no memory -/
def qrun (P : Program) {α : Type} : Sem α → Option α
  | .pure a => some a
  | .program k => qrun P (k P)
  | .mark _ k => qrun P k
  | _ => none
variable {P : Program}
theorem qrun_run {α : Type} (e : Sem α) {a : α} (h : qrun P e = some a) (w : World) : e.run P w = .ok a w := by
  induction e with
  | pure b => simp only [qrun, Option.some.injEq] at h; subst h; rfl
  | program k ih => exact ih P h
  | mark m k ih => exact ih h
  | _ => simp [qrun] at h
theorem qrun_bind {α β : Type} (e : Sem α) (f : α → Sem β) {x : β} (h : qrun P (e.bind f) = some x) : ∃ a, qrun P e = some a ∧ qrun P (f a) = some x := by
  induction e with
  | pure a => exact ⟨a, rfl, h⟩
  | program k ih => exact ih P h
  | mark m k ih => exact ih h
  | _ => simp [Sem.bind, qrun] at h

theorem run_bind {α β : Type} (e : Sem α) (f : α → Sem β) (w : World) :
    (e.bind f).run P w = match e.run P w with | .ok a w' => (f a).run P w' | .halt h w' => .halt h w' := by
  induction e generalizing w with
  | pure a => rfl
  | load m a k ih =>
    simp only [Sem.bind, Sem.run]
    cases w.cell? a with
    | some v => exact ih v w
    | none =>
      cases w.farLoad P a (m == .atomic) with
      | ok r => exact ih r.1 w
      | error h => rfl
  | store m a v k ih =>
    cases v <;> simp only [Sem.bind, Sem.run] <;> first
      | rfl
      | (split
         · split
           · rfl
           · exact ih _
         · split
           · exact ih _
           · rfl)
  | new o k ih => exact ih _ _
  | shape r k ih => exact ih _ _
  | freeze a n k ih => exact ih _
  | frozen a k ih => exact ih _ _
  | getObj r k ih =>
    simp only [Sem.bind, Sem.run]
    split <;> first | rfl | exact ih _ _
  | setObj r o k ih =>
    simp only [Sem.bind, Sem.run]
    split <;> first | rfl | exact ih _
  | choose q k ih =>
    simp only [Sem.bind, Sem.run]
    split <;> exact ih _ _
  | sys c k ih => exact ih _ _
  | program k ih => exact ih _ _
  | mark m k ih => exact ih _
  | halt h => rfl
theorem run_bind_ok {α β : Type} {e : Sem α} {f : α → Sem β} {w w' : World} {a : α} (h : e.run P w = .ok a w') : (e.bind f).run P w = (f a).run P w' := by
  rw [run_bind, h]
theorem run_q {α β : Type} {e : Sem α} {f : α → Sem β} {w : World} {a : α} (h : qrun P e = some a) : (e.bind f).run P w = (f a).run P w := run_bind_ok (qrun_run _ h w)

theorem addr_add (b o i : Nat) : (Addr.mk b o none).add i = ⟨b, o + i, none⟩ := by
  unfold Addr.add
  by_cases h : i = 0
  · subst h; rfl
  · rw [if_neg h]

/-! ### blocks -/
/-- Cells are put in the place of others. -/
def splice {α : Type} (l : List α) (o : Nat) (vs : List α) : List α := l.take o ++ (vs ++ l.drop (o + vs.length))
theorem splice_length {α : Type} (l : List α) (o : Nat) (vs : List α) (h : o + vs.length ≤ l.length) : (splice l o vs).length = l.length := by
  simp [splice]; omega

def World.putBlk (w : World) (b : Nat) (o : Obj) : World := { w with heap := w.heap.setIfInBounds b o }

theorem putBlk_same {w : World} {b : Nat} {o o' : Obj} (h : w.heap[b]? = some o') : (World.putBlk w b o).heap[b]? = some o := by
  have := (Array.getElem?_eq_some_iff.1 h).1
  simp [World.putBlk, this]
theorem putBlk_ne {w : World} {b b' : Nat} {o : Obj} (h : b' ≠ b) : (World.putBlk w b o).heap[b']? = w.heap[b']? := by
  simp [World.putBlk, Array.getElem?_setIfInBounds_ne (Ne.symm h)]
theorem putBlk_size {w : World} {b : Nat} {o : Obj} : (World.putBlk w b o).heap.size = w.heap.size := by simp [World.putBlk]
theorem putBlk_put {w : World} {b : Nat} {o o' : Obj} : World.putBlk (World.putBlk w b o) b o' = World.putBlk w b o' := by
  simp [World.putBlk, Array.setIfInBounds_setIfInBounds]
theorem putBlk_id {w : World} {b : Nat} {o : Obj} (h : w.heap[b]? = some o) : World.putBlk w b o = w := by
  obtain ⟨hlt, he⟩ := Array.getElem?_eq_some_iff.1 h
  simp only [World.putBlk]
  have : w.heap.setIfInBounds b o = w.heap := by
    apply Array.ext
    · simp
    · intro i h1 h2
      by_cases e : b = i
      · subst e; simp [he]
      · rw [Array.getElem_setIfInBounds_ne _ e]
  rw [this]
theorem alloc_old {w : World} {b : Nat} {o : Obj} (h : b < w.heap.size) : (w.alloc o).heap[b]? = w.heap[b]? := heap_alloc_old w o b h
theorem alloc_new {w : World} {o : Obj} : (w.alloc o).heap[w.heap.size]? = some o := heap_alloc_new w o
theorem alloc_size {w : World} {o : Obj} : (w.alloc o).heap.size = w.heap.size + 1 := by simp

theorem cell_blk {w : World} {b : Nat} {c : Array Value} {e : TypeId} {fr : Nat × Nat} (h : w.heap[b]? = some (.cells c e fr)) (o : Nat) : w.cell? ⟨b, o, none⟩ = c[o]? := by
  simp [World.cell?, h]
/-- No cell of so many is frozen. -/
def Thaw (fr : Nat × Nat) (n : Nat) : Prop := fr = (0, 0) ∨ n ≤ fr.1
theorem Thaw.len {fr : Nat × Nat} {n m : Nat} (h : Thaw fr n) (e : m = n) : Thaw fr m := e ▸ h
theorem frozen_blk {w : World} {b : Nat} {c : Array Value} {e : TypeId} {fr : Nat × Nat} (h : w.heap[b]? = some (.cells c e fr)) {n : Nat} (hf : Thaw fr n) {o : Nat} (ho : o < n) : w.frozen? ⟨b, o, none⟩ = false := by
  obtain ⟨lo, hi⟩ := fr
  rcases hf with e | e
  · cases e; simp [World.frozen?, h]
  · simp only [World.frozen?, h]
    simp only at e
    simp only [Bool.and_eq_false_iff, decide_eq_false_iff_not]
    exact .inl (by omega)
theorem setCell_blk {w : World} {b : Nat} {c : Array Value} {e : TypeId} {fr : Nat × Nat} (h : w.heap[b]? = some (.cells c e fr)) (o : Nat) (v : Value) :
    w.setCell ⟨b, o, none⟩ v = World.putBlk w b (.cells (c.setIfInBounds o v) e fr) := by
  obtain ⟨hlt, he⟩ := Array.getElem?_eq_some_iff.1 h
  simp only [World.setCell, World.putBlk]
  congr 1
  apply Array.ext
  · simp
  · intro i h1 h2
    rw [Array.getElem_modify]
    by_cases e : b = i
    · subst e; simp [he]
    · rw [if_neg e, Array.getElem_setIfInBounds_ne _ e]

theorem run_loadCellsFrom {w : World} {b : Nat} {c : Array Value} {e : TypeId} {fr : Nat × Nat} (h : w.heap[b]? = some (.cells c e fr)) (off : Nat) : ∀ (n i : Nat) (acc : Array Value), off + i + n ≤ c.size →
    (loadCellsFrom ⟨b, off, none⟩ i n acc).run P w = .ok (acc ++ ((c.toList.drop (off + i)).take n).toArray) w
  | 0, i, acc, _ => by simp [loadCellsFrom, pure]
  | n + 1, i, acc, hs => by
    have ih := run_loadCellsFrom (w := w) h off n (i + 1) (acc.push (c[off + i]'(by omega))) (by omega)
    simp only [loadCellsFrom, load, bind, Sem.bind, Sem.run, addr_add, cell_blk h]
    rw [Array.getElem?_eq_getElem (by omega)]
    simp only []
    rw [ih]
    congr 1
    apply Array.ext'
    have hd : c.toList.drop (off + i) = c[off + i]'(by omega) :: c.toList.drop (off + i + 1) := by
      rw [List.drop_eq_getElem_cons (by simpa using (by omega : off + i < c.size))]; simp
    simp [hd, Nat.add_assoc]
theorem run_loadCells {w : World} {b : Nat} {c : Array Value} {e : TypeId} {fr : Nat × Nat} (h : w.heap[b]? = some (.cells c e fr)) (off n : Nat) (hs : off + n ≤ c.size) :
    (loadCells ⟨b, off, none⟩ n).run P w = .ok ((c.toList.drop off).take n).toArray w := by
  have := run_loadCellsFrom (P := P) h off n 0 #[] (by omega)
  simpa [loadCells] using this

theorem run_storeCells {b : Nat} {e : TypeId} {fr : Nat × Nat} (off : Nat) : ∀ (vs : List Value) (i : Nat) (c : Array Value) (w : World), w.heap[b]? = some (.cells c e fr) → Thaw fr c.size → off + i + vs.length ≤ c.size → (∀ v ∈ vs, oneV v = true) →
    (storeCells ⟨b, off, none⟩ vs i).run P w = .ok () (World.putBlk w b (.cells (splice c.toList (off + i) vs).toArray e fr))
  | [], i, c, w, h, _, hs, _ => by
    have : (splice c.toList (off + i) ([] : List Value)).toArray = c := by simp [splice]
    rw [this, putBlk_id h]; rfl
  | v :: vs, i, c, w, h, hf, hs, hone => by
    simp only [List.length_cons] at hs
    have hv : oneV v = true := hone v (List.mem_cons_self ..)
    have h2 : (World.putBlk w b (.cells (c.setIfInBounds (off + i) v) e fr)).heap[b]? = some (.cells (c.setIfInBounds (off + i) v) e fr) := putBlk_same h
    have ih := run_storeCells off vs (i + 1) (c.setIfInBounds (off + i) v) _ h2 (hf.len (by simp)) (by simp; omega) (fun u hu => hone u (List.mem_cons_of_mem _ hu))
    have hc : w.cell? ⟨b, off + i, none⟩ = some (c[off + i]'(by omega)) := by rw [cell_blk h, Array.getElem?_eq_getElem (by omega)]
    have step : (storeCells ⟨b, off, none⟩ (v :: vs) i).run P w = (storeCells ⟨b, off, none⟩ vs (i + 1)).run P (w.setCell ⟨b, off + i, none⟩ v) := by
      simp only [storeCells, store, bind, Sem.bind, addr_add]
      cases v <;> first | (simp [oneV] at hv; done) | simp only [Sem.run, hc, frozen_blk h hf (show off + i < c.size by omega), Bool.false_eq_true, if_false]
    rw [step, setCell_blk h, ih, putBlk_put]
    congr 4
    have hlt : off + i < c.toList.length := by simp; omega
    simp only [splice, List.length_cons, Array.toList_setIfInBounds]
    rw [show off + (i + 1) = off + i + 1 from by omega, List.take_set, List.drop_set_of_lt (by omega), List.take_add_one, List.getElem?_eq_getElem hlt]
    rw [show off + i + 1 + vs.length = off + i + (vs.length + 1) from by omega]
    simp only [Option.toList_some]
    rw [List.set_append_right _ _ (by simp; omega)]
    have hmin : off + i - min (off + i) c.size = 0 := by have := hlt; simp at this; omega
    simp [hmin]
end Go.Sv
namespace Go.Sv
open Go.RowKit

/-! ### rows -/
inductive Key where
  | i (n : Int)
  | s (l : List UInt8)
/-- A row: cells (one's own, or such as stay; 'tip': the block may be longer), or a map. -/
inductive Row where
  | cells (c : List AV) (own tip : Bool)
  | map (kk : Option IntKind) (l : List (Key × Nat × AV)) (clock : Nat)
  | ptab (xs : List (Int × Int))
def Row.own : Row → Bool
  | .cells _ o _ => o
  | .map _ _ _ => true
  | .ptab _ => true
structure AS where
  next : Nat
  mem : List (Nat × Row)
abbrev Mem := Nat → Option Row
def find : List (Nat × Row) → Nat → Option Row
  | [], _ => none
  | (k, o) :: r, n => bif Nat.beq k n then some o else find r n
def Mem.set (M : Mem) (n : Nat) (r : Option Row) : Mem := fun m => if m = n then r else M m
theorem Mem.set_same (M : Mem) (n : Nat) (r : Option Row) : M.set n r n = r := by simp [Mem.set]
theorem Mem.set_ne (M : Mem) {n m : Nat} (r : Option Row) (h : m ≠ n) : M.set n r m = M m := by simp [Mem.set, h]

def KeyV : Option IntKind → Key → Value → Prop
  | some k, .i n, .int k' n' => k' = k ∧ n' = n
  | none, .s l, .string b => b = ⟨l.toArray⟩
  | _, _, _ => False
def Ents (κ : Kap) (kk : Option IntKind) : List (Key × Nat × AV) → List MapEntry → Prop
  | [], [] => True
  | (k, b, v) :: l, e :: es => ((KeyV kk k e.key ∧ e.born = b) ∧ VRel κ.nl v e.val) ∧ Ents κ kk l es
  | _, _ => False
structure MapRel (κ : Kap) (kk : Option IntKind) (l : List (Key × Nat × AV)) (es : Array MapEntry) (clock : Nat) : Prop where
  ent : Ents κ kk l es.toList
  stamped : MapKept.Stamped es clock
theorem Ents.mono {κ κ' : Kap} (h : κ.nl.le κ'.nl) {kk : Option IntKind} : ∀ {l : List (Key × Nat × AV)} {es : List MapEntry}, Ents κ kk l es → Ents κ' kk l es
  | [], [], _ => trivial
  | (_, _, _) :: _, _ :: _, r => ⟨⟨r.1.1, r.1.2.mono h⟩, Ents.mono h r.2⟩
  | [], _ :: _, r => r.elim
  | _ :: _, [], r => r.elim

/-- A map of numbers by numbers: its pairs alone. -/
def PT (xs : List (Int × Int)) (l : List (Key × Nat × AV)) : Prop := l.map (fun e => (e.1, e.2.2)) = xs.map fun x => (Key.i x.1, AV.int .i64 x.2)
def RowRel (κ : Kap) (w : World) (n : Nat) : Row → Prop
  | .cells c own tip => (κ.loc n = some none ∧ CRel κ c []) ∨
      ∃ b zs rest e fr, κ.loc n = some (some b) ∧ w.heap[b]? = some (.cells (zs ++ rest).toArray e fr) ∧ CRel κ c zs ∧ (tip = false → rest = []) ∧
        (own = true → Thaw fr (zs ++ rest).length ∧ κ.st b = none) ∧ (own = false → κ.st b = some zs) ∧ κ.sz b = some (zs ++ rest).length
  | .map kk l clock => ∃ b es, κ.loc n = some (some b) ∧ w.heap[b]? = some (.map es clock) ∧ MapRel κ kk l es clock
  | .ptab xs => ∃ l clock b es, PT xs l ∧ κ.loc n = some (some b) ∧ w.heap[b]? = some (.map es clock) ∧ MapRel κ (some .i64) l es clock

structure MRel (κ : Kap) (M : Mem) (w : World) : Prop where
  szlt : ∀ b s, κ.sz b = some s → b < w.heap.size
  stable : ∀ b cs, κ.st b = some cs → ∃ rest e fr, w.heap[b]? = some (.cells (cs ++ rest).toArray e fr)
  row : ∀ n r, M n = some r → RowRel κ w n r
  inj : ∀ n n' r r' b, M n = some r → M n' = some r' → κ.loc n = some (some b) → κ.loc n' = some (some b) → r.own = true → n = n'
structure Rel (κ : Kap) (st : AS) (w : World) : Prop where
  fresh : ∀ n, st.next ≤ n → κ.loc n = none
  mem : MRel κ (find st.mem) w

/-- A block that is a row's, and one's own. -/
def owned (κ : Kap) (M : Mem) (b : Nat) : Prop := ∃ n r, M n = some r ∧ r.own = true ∧ κ.loc n = some (some b)

/-- What a run leaves as it was. -/
structure Fr (κ : Kap) (M : Mem) (w : World) (κ' : Kap) (M' : Mem) (w' : World) : Prop where
  sts : ∀ b cs, κ'.st b = some cs → κ.st b = some cs ∨ w.heap.size ≤ b ∨ owned κ M b
  os : w'.os = w.os
  tape : w'.tape = w.tape
  output : w'.output = w.output
  size : w.heap.size ≤ w'.heap.size
  keep : ∀ b, b < w.heap.size → ¬ owned κ M b → w'.heap[b]? = w.heap[b]?
  owns : ∀ b, b < w.heap.size → owned κ' M' b → owned κ M b

theorem Fr.refl (κ : Kap) (M : Mem) (w : World) : Fr κ M w κ M w := ⟨fun _ _ h => .inl h, rfl, rfl, rfl, Nat.le_refl _, fun _ _ _ => rfl, fun _ _ h => h⟩
theorem Fr.trans {κ κ1 κ2 : Kap} {M M1 M2 : Mem} {w w1 w2 : World} (h : Fr κ M w κ1 M1 w1) (k : Fr κ1 M1 w1 κ2 M2 w2) : Fr κ M w κ2 M2 w2 :=
  ⟨fun b cs hs => by
      rcases k.sts b cs hs with h1 | h1 | h1
      · exact h.sts b cs h1
      · exact .inr (.inl (Nat.le_trans h.size h1))
      · by_cases hb : b < w.heap.size
        · exact .inr (.inr (h.owns b hb h1))
        · exact .inr (.inl (by omega)),
    k.os.trans h.os, k.tape.trans h.tape, k.output.trans h.output, Nat.le_trans h.size k.size,
    fun b hb hn => (k.keep b (Nat.lt_of_lt_of_le hb h.size) fun ho => hn (h.owns b hb ho)).trans (h.keep b hb hn),
    fun b hb ho => h.owns b hb (k.owns b (Nat.lt_of_lt_of_le hb h.size) ho)⟩
theorem Fr.below {κ κ' : Kap} {M M' : Mem} {w w' : World} (h : Fr κ M w κ' M' w') (hn : ∀ b, ¬ owned κ M b) : Below w.heap.size w w' :=
  ⟨h.os, h.tape, h.output, h.size, fun b hb => h.keep b hb (hn b)⟩

theorem owned.mono {κ κ' : Kap} (h : κ.le κ') {M : Mem} {b : Nat} (o : owned κ M b) : owned κ' M b := by
  obtain ⟨n, r, h1, h2, h3⟩ := o
  exact ⟨n, r, h1, h2, h.loc _ _ h3⟩

theorem RowRel.mono {κ κ' : Kap} (h : κ.le κ') {w : World} {n : Nat} (hs : ∀ b, κ.loc n = some (some b) → κ.st b = none → κ'.st b = none) {r : Row} (hr : RowRel κ w n r) : RowRel κ' w n r := by
  cases r with
  | cells c own tip =>
    rcases hr with ⟨h1, h2⟩ | ⟨b, zs, rest, e, fr, h1, h2, h3, h4, h5, h6, h7⟩
    · exact .inl ⟨h.loc _ _ h1, h2.mono h⟩
    · exact .inr ⟨b, zs, rest, e, fr, h.loc _ _ h1, h2, h3.mono h, h4, fun ho => ⟨(h5 ho).1, hs b h1 (h5 ho).2⟩, fun ho => h.st _ _ (h6 ho), h.sz _ _ h7⟩
  | map kk l clock =>
    obtain ⟨b, es, h1, h2, h3⟩ := hr
    exact ⟨b, es, h.loc _ _ h1, h2, h3.ent.mono h.nl, h3.stamped⟩
  | ptab xs =>
    obtain ⟨l, clock, b, es, h0, h1, h2, h3⟩ := hr
    exact ⟨l, clock, b, es, h0, h.loc _ _ h1, h2, h3.ent.mono h.nl, h3.stamped⟩

/-- Where it lies. -/
theorem RowRel.lt {κ : Kap} {w : World} {n : Nat} {r : Row} (hr : RowRel κ w n r) {b : Nat} (hb : κ.loc n = some (some b)) : b < w.heap.size := by
  cases r with
  | cells c own tip =>
    rcases hr with ⟨h1, h2⟩ | ⟨b', zs, rest, e, fr, h1, h2, _⟩
    · rw [hb] at h1; cases h1
    · rw [hb] at h1; cases h1; exact (Array.getElem?_eq_some_iff.1 h2).1
  | map kk l clock =>
    obtain ⟨b', es, h1, h2, h3⟩ := hr
    rw [hb] at h1; cases h1; exact (Array.getElem?_eq_some_iff.1 h2).1
  | ptab xs =>
    obtain ⟨l, clock, b', es, h0, h1, h2, h3⟩ := hr
    rw [hb] at h1; cases h1; exact (Array.getElem?_eq_some_iff.1 h2).1
theorem MRel.lt {κ : Kap} {M : Mem} {w : World} (h : MRel κ M w) {b : Nat} (o : owned κ M b) : b < w.heap.size := by
  obtain ⟨n, r, h1, _, h3⟩ := o
  exact (h.row n r h1).lt h3

/-- A stable block is nobody's own. -/
theorem MRel.stable_not_owned {κ : Kap} {M : Mem} {w : World} (h : MRel κ M w) {b : Nat} {cs : List Value} (hs : κ.st b = some cs) : ¬ owned κ M b := by
  rintro ⟨n, r, h1, h2, h3⟩
  have hr := h.row n r h1
  cases r with
  | cells c own tip =>
    rcases hr with ⟨h4, _⟩ | ⟨b', zs, rest, e, fr, h4, h5, _, _, h6, _⟩
    · rw [h3] at h4; cases h4
    · rw [h3] at h4; cases h4
      rw [(h6 h2).2] at hs; cases hs
  | map kk l clock =>
    obtain ⟨b', es, h4, h5, _⟩ := hr
    rw [h3] at h4; cases h4
    obtain ⟨rest, e, fr, h6⟩ := h.stable b cs hs
    rw [h5] at h6; cases h6
  | ptab xs =>
    obtain ⟨l, clock, b', es, _, h4, h5, _⟩ := hr
    rw [h3] at h4; cases h4
    obtain ⟨rest, e, fr, h6⟩ := h.stable b cs hs
    rw [h5] at h6; cases h6

/-- A row of its block alone. -/
theorem RowRel.congr {κ : Kap} {w w' : World} {n : Nat} {r : Row} (hr : RowRel κ w n r) (h : ∀ b, κ.loc n = some (some b) → w'.heap[b]? = w.heap[b]?) : RowRel κ w' n r := by
  cases r with
  | cells c own tip =>
    rcases hr with ⟨h1, h2⟩ | ⟨b, zs, rest, e, fr, h1, h2, h3⟩
    · exact .inl ⟨h1, h2⟩
    · exact .inr ⟨b, zs, rest, e, fr, h1, by rw [h b h1]; exact h2, h3⟩
  | map kk l clock =>
    obtain ⟨b, es, h1, h2, h3⟩ := hr
    exact ⟨b, es, h1, by rw [h b h1]; exact h2, h3⟩
  | ptab xs =>
    obtain ⟨l, clock, b, es, h0, h1, h2, h3⟩ := hr
    exact ⟨l, clock, b, es, h0, h1, by rw [h b h1]; exact h2, h3⟩

theorem MRel.congr {κ : Kap} {M M' : Mem} {w : World} (h : MRel κ M w) (e : ∀ n, M' n = M n) : MRel κ M' w := by
  have : M' = M := funext e
  rw [this]; exact h
/-- Fewer rows. -/
theorem MRel.sub {κ : Kap} {M M' : Mem} {w : World} (h : MRel κ M w) (e : ∀ n r, M' n = some r → M n = some r) : MRel κ M' w :=
  ⟨h.szlt, h.stable, fun n r hn => h.row n r (e n r hn), fun n n' r r' b h1 h2 => h.inj n n' r r' b (e _ _ h1) (e _ _ h2)⟩
theorem owned.sub {κ : Kap} {M M' : Mem} (e : ∀ n r, M' n = some r → M n = some r) {b : Nat} (o : owned κ M' b) : owned κ M b := by
  obtain ⟨n, r, h1, h2, h3⟩ := o
  exact ⟨n, r, e n r h1, h2, h3⟩
/-- A world with the same blocks. -/
theorem MRel.heap {κ : Kap} {M : Mem} {w w' : World} (h : MRel κ M w) (e : w'.heap = w.heap) : MRel κ M w' :=
  ⟨fun b s hs => by rw [e]; exact h.szlt b s hs, fun b cs hs => by rw [e]; exact h.stable b cs hs, fun n r hn => (h.row n r hn).congr fun b _ => by rw [e], h.inj⟩
theorem Rel.heap {κ : Kap} {st : AS} {w w' : World} (h : Rel κ st w) (e : w'.heap = w.heap) : Rel κ st w' := ⟨h.fresh, h.mem.heap e⟩

/-! ### new rows -/
def Kap.at (κ : Kap) (n : Nat) (b : Option Nat) : Kap := ⟨fun m => if m = n then some b else κ.loc m, κ.st, κ.gh, κ.sz⟩
/-- A new block. -/
def Kap.blk (κ : Kap) (b s : Nat) : Kap := ⟨κ.loc, κ.st, κ.gh, fun b' => if b' = b then some s else κ.sz b'⟩
theorem Kap.blk_le {κ : Kap} {b s : Nat} (h : κ.sz b = none) : κ.le (κ.blk b s) :=
  ⟨fun _ _ h => h, fun _ _ h => h, rfl, fun b' x e => by
    simp only [Kap.blk]
    by_cases hm : b' = b
    · subst hm; rw [h] at e; cases e
    · rw [if_neg hm]; exact e⟩
theorem Kap.at_le {κ : Kap} {n : Nat} {b : Option Nat} (h : κ.loc n = none) : κ.le (κ.at n b) :=
  ⟨fun m x e => by
    simp only [Kap.at]
    by_cases hm : m = n
    · subst hm; rw [h] at e; cases e
    · rw [if_neg hm]; exact e, fun _ _ h => h, rfl, fun _ _ h => h⟩
theorem Kap.at_same {κ : Kap} {n : Nat} {b : Option Nat} : (κ.at n b).loc n = some b := by simp [Kap.at]
theorem Kap.at_ne {κ : Kap} {n m : Nat} {b : Option Nat} (h : m ≠ n) : (κ.at n b).loc m = κ.loc m := by simp [Kap.at, h]

/-- A block more. -/
theorem MRel.more {κ : Kap} {M : Mem} {w : World} (h : MRel κ M w) (o : Obj) (s : Nat) : κ.le (κ.blk w.heap.size s) ∧ MRel (κ.blk w.heap.size s) M (w.alloc o) ∧ Fr κ M w (κ.blk w.heap.size s) M (w.alloc o) := by
  have hsz : κ.sz w.heap.size = none := by
    cases e : κ.sz w.heap.size with
    | none => rfl
    | some s => exact absurd (h.szlt _ _ e) (Nat.lt_irrefl _)
  have hle := Kap.blk_le (s := s) hsz
  refine ⟨hle, ⟨fun b s' hs => ?_, fun b cs hs => ?_, fun m r' hr' => ?_, h.inj⟩, (fun _ _ h => .inl h), rfl, rfl, rfl, by simp, fun b hb _ => alloc_old hb, fun b hb ho => ho⟩
  · simp only [Kap.blk] at hs
    by_cases e : b = w.heap.size
    · subst e; simp
    · rw [if_neg e] at hs; have := h.szlt b s' hs; simp; omega
  · obtain ⟨rest, e, fr, hx⟩ := h.stable b cs hs
    exact ⟨rest, e, fr, by rw [alloc_old (Array.getElem?_eq_some_iff.1 hx).1]; exact hx⟩
  · exact ((h.row m r' hr').mono hle fun b _ hb => hb).congr fun b hb => alloc_old ((h.row m r' hr').lt hb)

/-- A row more, in a block that is no row's. -/
theorem MRel.name {κ : Kap} {M : Mem} {w : World} (h : MRel κ M w) {n b : Nat} (hn : κ.loc n = none) {r : Row} (hf : ∀ m r', M m = some r' → κ.loc m ≠ some (some b)) (hr : RowRel (κ.at n (some b)) w n r) :
    MRel (κ.at n (some b)) (M.set n (some r)) w := by
  have hle : κ.le (κ.at n (some b)) := Kap.at_le hn
  refine ⟨h.szlt, h.stable, fun m r' hm => ?_, fun m m' r1 r2 b' h1 h2 h3 h4 ho => ?_⟩
  · by_cases e : m = n
    · subst e; rw [Mem.set_same] at hm; cases hm; exact hr
    · rw [Mem.set_ne _ _ e] at hm; exact (h.row m r' hm).mono hle fun b _ hb => hb
  · by_cases e : m = n <;> by_cases e' : m' = n
    · rw [e, e']
    · subst e; rw [Mem.set_ne _ _ e'] at h2
      rw [Kap.at_same] at h3; cases h3
      rw [Kap.at_ne e'] at h4
      exact absurd h4 (hf m' r2 h2)
    · subst e'; rw [Mem.set_ne _ _ e] at h1
      rw [Kap.at_same] at h4; cases h4
      rw [Kap.at_ne e] at h3
      exact absurd h3 (hf m r1 h1)
    · rw [Mem.set_ne _ _ e] at h1; rw [Mem.set_ne _ _ e'] at h2
      rw [Kap.at_ne e] at h3; rw [Kap.at_ne e'] at h4
      exact h.inj m m' r1 r2 b' h1 h2 h3 h4 ho
theorem owned_at {κ : Kap} {M : Mem} {n b b' : Nat} {r : Row} (ho : owned (κ.at n (some b)) (M.set n (some r)) b') (hb : b' ≠ b) : owned κ M b' := by
  obtain ⟨m, r', h1, h2, h3⟩ := ho
  by_cases e : m = n
  · subst e; rw [Kap.at_same] at h3; cases h3; exact absurd rfl hb
  · rw [Mem.set_ne _ _ e] at h1; rw [Kap.at_ne e] at h3
    exact ⟨m, r', h1, h2, h3⟩
def Kap.new (κ : Kap) (n b s : Nat) : Kap := (κ.blk b s).at n (some b)
/-- A new block, a row's. -/
theorem MRel.new {κ : Kap} {M : Mem} {w : World} (h : MRel κ M w) {n : Nat} (hn : κ.loc n = none) {r : Row} {o : Obj} {s : Nat} (hr : RowRel (κ.new n w.heap.size s) (w.alloc o) n r) :
    κ.le (κ.new n w.heap.size s) ∧ MRel (κ.new n w.heap.size s) (M.set n (some r)) (w.alloc o) ∧ Fr κ M w (κ.new n w.heap.size s) (M.set n (some r)) (w.alloc o) := by
  obtain ⟨hle, h1, h2⟩ := h.more o s
  have hn' : (κ.blk w.heap.size s).loc n = none := hn
  refine ⟨Kap.le_trans hle (Kap.at_le hn'), h1.name hn' (fun m r' hm hb => ?_) hr, ⟨fun _ _ h => .inl h, rfl, rfl, rfl, by simp, fun b hb _ => alloc_old hb, fun b hb ho => owned_at ho (Nat.ne_of_lt hb)⟩⟩
  exact absurd ((h.row m r' hm).lt hb) (Nat.lt_irrefl _)

/-- A row that may be nil: no block. -/
theorem MRel.new0 {κ : Kap} {M : Mem} {w : World} (h : MRel κ M w) {n : Nat} (hn : κ.loc n = none) {c : List AV} (hc : CRel (κ.at n none) c []) (own tip : Bool) :
    MRel (κ.at n none) (M.set n (some (.cells c own tip))) w ∧ Fr κ M w (κ.at n none) (M.set n (some (.cells c own tip))) w := by
  have hle : κ.le (κ.at n none) := Kap.at_le hn
  refine ⟨⟨h.szlt, h.stable, fun m r' hm => ?_, fun m m' r1 r2 b h1 h2 h3 h4 ho => ?_⟩, (fun _ _ h => .inl h), rfl, rfl, rfl, Nat.le_refl _, fun b hb _ => rfl, fun b hb ho => ?_⟩
  · by_cases e : m = n
    · subst e; rw [Mem.set_same] at hm; cases hm; exact .inl ⟨Kap.at_same, hc⟩
    · rw [Mem.set_ne _ _ e] at hm; exact (h.row m r' hm).mono hle fun b _ hb => hb
  · by_cases e : m = n
    · subst e; rw [Kap.at_same] at h3; cases h3
    · by_cases e' : m' = n
      · subst e'; rw [Kap.at_same] at h4; cases h4
      · rw [Mem.set_ne _ _ e] at h1; rw [Mem.set_ne _ _ e'] at h2
        rw [Kap.at_ne e] at h3; rw [Kap.at_ne e'] at h4
        exact h.inj m m' r1 r2 b h1 h2 h3 h4 ho
  · obtain ⟨m, r', h1, h2, h3⟩ := ho
    by_cases e : m = n
    · subst e; rw [Kap.at_same] at h3; cases h3
    · rw [Mem.set_ne _ _ e] at h1; rw [Kap.at_ne e] at h3
      exact ⟨m, r', h1, h2, h3⟩

/-! ### a row of one's own is written -/
theorem MRel.put {κ : Kap} {M : Mem} {w : World} (h : MRel κ M w) {n b : Nat} {r r' : Row} (hn : M n = some r) (ho : r.own = true) (hb : κ.loc n = some (some b)) {o : Obj}
    (hr : RowRel κ (World.putBlk w b o) n r') : MRel κ (M.set n (some r')) (World.putBlk w b o) ∧ Fr κ M w κ (M.set n (some r')) (World.putBlk w b o) := by
  have hlt := (h.row n r hn).lt hb
  have howned : owned κ M b := ⟨n, r, hn, ho, hb⟩
  have hne : ∀ m r2, m ≠ n → M m = some r2 → κ.loc m ≠ some (some b) := fun m r2 hm h2 h3 => hm (h.inj n m r r2 b hn h2 hb h3 ho).symm
  refine ⟨⟨fun b' s hs => by rw [putBlk_size]; exact h.szlt b' s hs, fun b' cs hs => ?_, fun m r2 hm => ?_, fun m m' r1 r2 b' h1 h2 h3 h4 h5 => ?_⟩, (fun _ _ h => .inl h), rfl, rfl, rfl, by rw [putBlk_size]; exact Nat.le_refl _, fun b' hb' hno => ?_, fun b' hb' hown => ?_⟩
  · have : b' ≠ b := fun e => by subst e; exact h.stable_not_owned hs howned
    rw [putBlk_ne this]; exact h.stable b' cs hs
  · by_cases e : m = n
    · subst e; rw [Mem.set_same] at hm; cases hm; exact hr
    · rw [Mem.set_ne _ _ e] at hm
      refine (h.row m r2 hm).congr fun b' hb' => putBlk_ne fun e' => ?_
      subst e'; exact hne m r2 e hm hb'
  · by_cases e : m = n <;> by_cases e' : m' = n
    · rw [e, e']
    · subst e; rw [Mem.set_ne _ _ e'] at h2
      rw [hb] at h3; cases h3
      exact absurd h4 (hne m' r2 e' h2)
    · subst e'; rw [Mem.set_ne _ _ e] at h1
      rw [hb] at h4; cases h4
      exact absurd h3 (hne m r1 e h1)
    · rw [Mem.set_ne _ _ e] at h1; rw [Mem.set_ne _ _ e'] at h2
      exact h.inj m m' r1 r2 b' h1 h2 h3 h4 h5
  · exact putBlk_ne fun e => hno (by subst e; exact howned)
  · obtain ⟨m, r2, h1, h2, h3⟩ := hown
    by_cases e : m = n
    · subst e; rw [hb] at h3; cases h3; exact howned
    · rw [Mem.set_ne _ _ e] at h1; exact ⟨m, r2, h1, h2, h3⟩

/-! ### a row of one's own is given up: it stays -/
def Kap.stay (κ : Kap) (b : Nat) (cs : List Value) : Kap := ⟨κ.loc, fun b' => if b' = b then some cs else κ.st b', κ.gh, κ.sz⟩
theorem Kap.stay_le {κ : Kap} {b : Nat} {cs : List Value} (h : κ.st b = none) : κ.le (κ.stay b cs) :=
  ⟨fun _ _ h => h, fun b' x e => by
    simp only [Kap.stay]
    by_cases hm : b' = b
    · subst hm; rw [h] at e; cases e
    · rw [if_neg hm]; exact e, rfl, fun _ _ h => h⟩
theorem MRel.freeze {κ : Kap} {M : Mem} {w : World} (h : MRel κ M w) {n : Nat} {c : List AV} {tip : Bool} (hn : M n = some (.cells c true tip)) :
    ∃ κ', κ.le κ' ∧ κ'.loc = κ.loc ∧ MRel κ' (M.set n (some (.cells c false tip))) w ∧ Fr κ M w κ' (M.set n (some (.cells c false tip))) w := by
  rcases h.row n _ hn with ⟨h1, h2⟩ | ⟨b, zs, rest, e, fr, h1, h2, h3, h4, h5, h6, h7⟩
  · refine ⟨κ, Kap.le_refl κ, rfl, ⟨h.szlt, h.stable, fun m r2 hm => ?_, fun m m' r1 r2 b' a1 a2 a3 a4 a5 => ?_⟩, (fun _ _ h => .inl h), rfl, rfl, rfl, Nat.le_refl _, fun b' hb' hno => rfl, fun b' hb' hown => ?_⟩
    · by_cases e : m = n
      · subst e; rw [Mem.set_same] at hm; cases hm; exact .inl ⟨h1, h2⟩
      · rw [Mem.set_ne _ _ e] at hm; exact h.row m r2 hm
    · by_cases e : m = n
      · subst e; rw [h1] at a3; cases a3
      · by_cases e' : m' = n
        · subst e'; rw [h1] at a4; cases a4
        · rw [Mem.set_ne _ _ e] at a1; rw [Mem.set_ne _ _ e'] at a2
          exact h.inj m m' r1 r2 b' a1 a2 a3 a4 a5
    · obtain ⟨m, r2, a1, a2, a3⟩ := hown
      by_cases e : m = n
      · subst e; rw [h1] at a3; cases a3
      · rw [Mem.set_ne _ _ e] at a1; exact ⟨m, r2, a1, a2, a3⟩
  · have hle : κ.le (κ.stay b zs) := Kap.stay_le (h5 rfl).2
    have hne : ∀ m r2, m ≠ n → M m = some r2 → κ.loc m ≠ some (some b) := fun m r2 hm a2 a3 => hm (h.inj n m _ r2 b hn a2 h1 a3 rfl).symm
    refine ⟨κ.stay b zs, hle, rfl, ⟨h.szlt, fun b' cs hs => ?_, fun m r2 hm => ?_, fun m m' r1 r2 b' a1 a2 a3 a4 a5 => ?_⟩, (fun b' cs hs => ?_), rfl, rfl, rfl, Nat.le_refl _, fun b' hb' hno => rfl, fun b' hb' hown => ?_⟩
    · simp only [Kap.stay] at hs
      by_cases e : b' = b
      · subst e; rw [if_pos rfl] at hs; cases hs; exact ⟨rest, _, fr, h2⟩
      · rw [if_neg e] at hs; exact h.stable b' cs hs
    · by_cases e : m = n
      · subst e; rw [Mem.set_same] at hm; cases hm
        refine .inr ⟨b, zs, rest, _, fr, h1, h2, h3.mono hle, h4, (fun ho => by cases ho), fun _ => ?_, h7⟩
        simp [Kap.stay]
      · rw [Mem.set_ne _ _ e] at hm
        have hb' := hne m r2 e hm
        exact (h.row m r2 hm).mono hle fun b2 h2 hs2 => by
          simp only [Kap.stay]
          rw [if_neg (fun e3 => hb' (by rw [← e3]; exact h2))]; exact hs2
    · by_cases e : m = n <;> by_cases e' : m' = n
      · rw [e, e']
      · subst e; rw [Mem.set_same] at a1; cases a1; cases a5
      · subst e'; rw [Mem.set_ne _ _ e] at a1
        have : κ.loc m = some (some b') := a3
        have h4' : κ.loc m' = some (some b') := a4
        rw [h1] at h4'; cases h4'
        exact absurd this (hne m r1 e a1)
      · rw [Mem.set_ne _ _ e] at a1; rw [Mem.set_ne _ _ e'] at a2
        exact h.inj m m' r1 r2 b' a1 a2 a3 a4 a5
    · simp only [Kap.stay] at hs
      by_cases e : b' = b
      · subst e; exact .inr (.inr ⟨n, _, hn, rfl, h1⟩)
      · rw [if_neg e] at hs; exact .inl hs
    · obtain ⟨m, r2, a1, a2, a3⟩ := hown
      by_cases e : m = n
      · subst e; rw [Mem.set_same] at a1; cases a1; cases a2
      · rw [Mem.set_ne _ _ e] at a1; exact ⟨m, r2, a1, a2, a3⟩
end Go.Sv
namespace Go.Sv
noncomputable section
open Go.RowKit
variable {P : Program}

/-! ### slots -/
inductive Env where
  | nil
  | node (l : Env) (v : AV) (r : Env)
def Env.get (E : Env) : Nat → AV := @Env.rec (fun _ => Nat → AV) (fun _ => .any) (fun _ v _ gl gr n => @Bool.rec (fun _ => AV) (@Bool.rec (fun _ => AV) (gr (Nat.sub (Nat.div n 2) 1)) (gl (Nat.div n 2)) (Nat.beq (Nat.mod n 2) 1)) v (Nat.beq n 0)) E
theorem Env.get_nil (n : Nat) : Env.nil.get n = .any := rfl
theorem Env.get_node (l r : Env) (v : AV) (n : Nat) : (Env.node l v r).get n = bif Nat.beq n 0 then v else bif Nat.beq (n % 2) 1 then l.get (n / 2) else r.get (n / 2 - 1) := by
  show @Bool.rec (fun _ => AV) (@Bool.rec (fun _ => AV) (r.get (n / 2 - 1)) (l.get (n / 2)) (Nat.beq (n % 2) 1)) v (Nat.beq n 0) = _
  cases Nat.beq n 0 <;> cases Nat.beq (n % 2) 1 <;> rfl
def Env.set : Env → Nat → AV → Env
  | .nil, _, _ => .nil
  | .node l v r, n, x => bif Nat.beq n 0 then .node l x r else bif Nat.beq (n % 2) 1 then .node (l.set (n / 2) x) v r else .node l v (r.set (n / 2 - 1) x)
def Env.mk : Nat → Env
  | 0 => .nil
  | d + 1 => .node (Env.mk d) .any (Env.mk d)
section
variable {R : Type}
def Env.setK (E : Env) : Nat → AV → (Env → Option R) → Option R := @Env.rec (fun _ => Nat → AV → (Env → Option R) → Option R) (fun _ _ k => k .nil) (fun l v r sl sr n x k => @Bool.rec (fun _ => Option R) (@Bool.rec (fun _ => Option R) (sr (Nat.sub (Nat.div n 2) 1) x fun r' => k (.node l v r')) (sl (Nat.div n 2) x fun l' => k (.node l' v r)) (Nat.beq (Nat.mod n 2) 1)) (k (.node l x r)) (Nat.beq n 0)) E
theorem Env.setK_node (l r : Env) (v : AV) (n : Nat) (x : AV) (k : Env → Option R) : (Env.node l v r).setK n x k = bif Nat.beq n 0 then k (.node l x r) else bif Nat.beq (n % 2) 1 then l.setK (n / 2) x fun l' => k (.node l' v r) else r.setK (n / 2 - 1) x fun r' => k (.node l v r') := by
  show @Bool.rec (fun _ => Option R) (@Bool.rec (fun _ => Option R) (r.setK (n / 2 - 1) x fun r' => k (.node l v r')) (l.setK (n / 2) x fun l' => k (.node l' v r)) (Nat.beq (n % 2) 1)) (k (.node l x r)) (Nat.beq n 0) = _
  cases Nat.beq n 0 <;> cases Nat.beq (n % 2) 1 <;> rfl
theorem Env.setK_eq : ∀ (E : Env) (n : Nat) (x : AV) (k : Env → Option R), E.setK n x k = k (E.set n x)
  | .nil, _, _, _ => rfl
  | .node l v r, n, x, k => by
    simp only [Env.setK_node, Env.set, Env.setK_eq l, Env.setK_eq r]
    cases Nat.beq n 0 <;> cases Nat.beq (n % 2) 1 <;> rfl
end
theorem Env.get_mk : ∀ (d n : Nat), (Env.mk d).get n = .any
  | 0, _ => rfl
  | d + 1, n => by
    simp only [Env.mk, Env.get_node, Env.get_mk d]
    cases Nat.beq n 0 <;> cases Nat.beq (n % 2) 1 <;> rfl
theorem beq_false {a b : Nat} (h : a ≠ b) : Nat.beq a b = false := by
  cases e : Nat.beq a b
  · rfl
  · exact absurd (Nat.eq_of_beq_eq_true e) h
/-- What is set is there (or nothing is known), the others are as they were. -/
theorem Env.get_set : ∀ (E : Env) (n m : Nat) (x : AV), (E.set n x).get m = if m = n then (match E.get n, (E.set n x).get n with | _, y => y) else E.get m
  | .nil, n, m, x => by simp [Env.set, Env.get_nil]
  | .node l v r, n, m, x => by
    by_cases e : m = n
    · subst e; rw [if_pos rfl]
    · rw [if_neg e]
      simp only [Env.set]
      cases h0 : Nat.beq n 0
      · cases h1 : Nat.beq (n % 2) 1
        · simp only [cond_false, Env.get_node]
          cases h2 : Nat.beq m 0
          · cases h3 : Nat.beq (m % 2) 1
            · simp only [cond_false]
              have := Env.get_set r (n / 2 - 1) (m / 2 - 1) x
              rw [this, if_neg]
              intro h
              have a0 : n ≠ 0 := fun e => by subst e; simp at h0
              have b0 : m ≠ 0 := fun e => by subst e; simp at h2
              have a1 : n % 2 ≠ 1 := fun e => by rw [e] at h1; simp at h1
              have b1 : m % 2 ≠ 1 := fun e => by rw [e] at h3; simp at h3
              omega
            · rfl
          · rfl
        · simp only [cond_true, cond_false, Env.get_node]
          cases h2 : Nat.beq m 0
          · cases h3 : Nat.beq (m % 2) 1
            · rfl
            · simp only [cond_true, cond_false]
              have := Env.get_set l (n / 2) (m / 2) x
              rw [this, if_neg]
              intro h
              have a1 := Nat.eq_of_beq_eq_true h1
              have b1 := Nat.eq_of_beq_eq_true h3
              omega
          · rfl
      · have a0 := Nat.eq_of_beq_eq_true h0
        subst a0
        simp only [cond_true, Env.get_node, beq_false e, cond_false]
theorem Env.get_set_ne {E : Env} {n m : Nat} {x : AV} (h : m ≠ n) : (E.set n x).get m = E.get m := by rw [Env.get_set, if_neg h]
theorem Env.get_set_same : ∀ (E : Env) (n : Nat) (x : AV), (E.set n x).get n = x ∨ (E.set n x).get n = .any
  | .nil, _, _ => .inr rfl
  | .node l v r, n, x => by
    simp only [Env.set]
    cases h0 : Nat.beq n 0
    · cases h1 : Nat.beq (n % 2) 1
      · simp only [cond_false, Env.get_node, h0, h1]; exact Env.get_set_same r _ x
      · simp only [cond_true, cond_false, Env.get_node, h0, h1]; exact Env.get_set_same l _ x
    · simp only [cond_true, Env.get_node, h0]; exact .inl trivial

/-- The deferred call that a ghost stands for. -/
def defOf : Value → List Deferred
  | .func (.func f) _ cap => [⟨.fn (.func f) cap, #[]⟩]
  | _ => []
/-- The calls that are deferred. -/
def Kap.df (κ : Kap) : List Deferred := defOf (κ.gh 0)
theorem Kap.df_gh {κ κ' : Kap} (h : κ'.gh = κ.gh) : κ'.df = κ.df := by unfold Kap.df; rw [h]
structure ERel (κ : Kap) (E : Env) (a : Act) : Prop where
  get : ∀ t, VRel κ (E.get t) (a.tmps.getD t undef)
  defers : a.defers = κ.df
theorem ERel.mono {κ κ' : Kap} (h : κ.le κ') {E : Env} {a : Act} (r : ERel κ E a) : ERel κ' E a := ⟨fun t => (r.get t).mono h, r.defers.trans (Kap.df_gh h.gh).symm⟩
theorem getD_set (xs : Array Value) (d t : Nat) (v : Value) : (xs.setIfInBounds d v).getD t undef = if d = t ∧ d < xs.size then v else xs.getD t undef := by
  simp only [Array.getD_eq_getD_getElem?]
  by_cases e : d = t
  · subst e
    by_cases hlt : d < xs.size
    · simp [hlt]
    · simp [hlt]
  · simp [e, Array.getElem?_setIfInBounds_ne e]
theorem vrel_any (κ : Kap) (y : Value) : VRel κ .any y := .any y .nil
/-- A slot out of range keeps what it is: it is asked that the slot be there. -/
theorem ERel.put {κ : Kap} {E : Env} {a : Act} (r : ERel κ E a) {d : Nat} (hd : d < a.tmps.size) {v : AV} {v' : Value} (hv : VRel κ v v') : ERel κ (E.set d v) (a.put (some d) v') := by
  refine ⟨fun t => ?_, r.defers⟩
  simp only [Act.put, getD_set]
  by_cases e : d = t
  · subst e
    rw [if_pos ⟨rfl, hd⟩]
    rcases E.get_set_same d v with h | h <;> rw [h]
    · exact hv
    · exact vrel_any κ _
  · rw [if_neg (fun h => e h.1), Env.get_set_ne (Ne.symm e)]; exact r.get t

/-! ### operands -/
def ofVs (rec : Value → Option AV) : List Value → Option (List AV)
  | [] => some []
  | v :: vs => match rec v with
    | some x => match ofVs rec vs with
      | some xs => some (x :: xs)
      | none => none
    | none => none
def ofVN : Nat → Value → Option AV
  | 0, _ => none
  | n + 1, v => match v with
    | .bool b => some (.bool b)
    | .int k n => some (.int k n)
    | .string s => some (.str s.data.toList)
    | .agg cs => match ofVs (ofVN n) cs.toList with | some xs => some (.agg xs) | none => none
    | .tuple cs => match ofVs (ofVN n) cs.toList with | some xs => some (.tup xs) | none => none
    | .iface t v => match ofVN n v with | some x => some (.ifc t x) | none => none
    | v => bif rawOk v then some (.raw v) else none
def ofV (v : Value) : Option AV := ofVN 6 v
def isArr : AV → Bool
  | .arr _ _ _ _ => true
  | _ => false
theorem ofVs_ok {κ : Kap} {rec : Value → Option AV} (h : ∀ v x, rec v = some x → VRel κ x v) : ∀ (vs : List Value) (xs : List AV), ofVs rec vs = some xs → CRel κ xs vs
  | [], xs, e => by simp only [ofVs, Option.some.injEq] at e; subst e; exact .nil
  | v :: vs, xs, e => by
    simp only [ofVs] at e
    split at e
    · rename_i x hx
      split at e
      · rename_i ys hys
        simp only [Option.some.injEq] at e; subst e
        exact (h v x hx).append (ofVs_ok h vs ys hys)
      · cases e
    · cases e
theorem ofVN_ok {κ : Kap} : ∀ (n : Nat) (v : Value) (x : AV), ofVN n v = some x → VRel κ x v
  | 0, _, _, h => by simp [ofVN] at h
  | n + 1, v, x, h => by
    cases v with
    | bool b => simp only [ofVN, Option.some.injEq] at h; subst h; exact .bool b .nil
    | int k n => simp only [ofVN, Option.some.injEq] at h; subst h; exact .int k n .nil
    | string s =>
      simp only [ofVN, Option.some.injEq] at h; subst h
      have e : (⟨s.data.toList.toArray⟩ : ByteArray) = s := by cases s; simp
      have := CRel.str (κ := κ) s.data.toList (.nil)
      rw [e] at this; exact this
    | agg cs =>
      simp only [ofVN] at h
      split at h
      · rename_i xs hxs
        simp only [Option.some.injEq] at h; subst h
        exact .agg xs cs.toList (ofVs_ok (fun v x => ofVN_ok n v x) _ _ hxs) .nil
      · cases h
    | tuple cs =>
      simp only [ofVN] at h
      split at h
      · rename_i xs hxs
        simp only [Option.some.injEq] at h; subst h
        exact .tup xs cs.toList (ofVs_ok (fun v x => ofVN_ok n v x) _ _ hxs) .nil
      · cases h
    | iface t v =>
      simp only [ofVN] at h
      split at h
      · rename_i x hx
        simp only [Option.some.injEq] at h; subst h
        exact .ifc t x v (ofVN_ok n v x hx) .nil
      · cases h
    | _ =>
      simp only [ofVN] at h
      cases hr : rawOk _ <;> rw [hr] at h
      · cases h
      · simp only [cond_true, Option.some.injEq] at h; subst h; exact .raw _ .nil
theorem ofV_ok {κ : Kap} {v : Value} {x : AV} (h : ofV v = some x) : VRel κ x v := ofVN_ok 6 v x h

def aeval (E : Env) : Operand → Option AV
  | .tmp t => some (E.get t)
  | .const v => ofV v
  | .global _ => none
  | .func f => some (.fn f [] [])
def aevals (E : Env) : List Operand → Option (List AV)
  | [] => some []
  | x :: xs => match aeval E x with
    | none => none
    | some v => match aevals E xs with
      | none => none
      | some vs => some (v :: vs)
theorem aeval_ok {κ : Kap} {E : Env} {a : Act} (r : ∀ t, VRel κ (E.get t) (a.tmps.getD t undef)) {x : Operand} {v : AV} (h : aeval E x = some v) : VRel κ v (a.eval x) := by
  cases x with
  | tmp t => simp only [aeval, Option.some.injEq] at h; subst h; exact r t
  | const c => exact ofV_ok h
  | global g => simp [aeval] at h
  | func f => simp only [aeval, Option.some.injEq] at h; subst h; exact .fn f [] [] [] [] .nil .nil .nil
/-- What an operation looks at is related. -/
def AOn (κ : Kap) (o : Oper) (E : Env) (a : Act) : Prop := ∀ x ∈ o.op.operands, ∀ v, aeval E x = some v → VRel κ v (a.eval x)
theorem ERel.on {κ : Kap} {E : Env} {a : Act} (r : ERel κ E a) (o : Oper) : AOn κ o E a := fun _ _ _ h => aeval_ok r.get h
theorem aevals_ok {κ : Kap} {E : Env} {a : Act} : ∀ (xs : List Operand) (vs : List AV), (∀ x ∈ xs, ∀ v, aeval E x = some v → VRel κ v (a.eval x)) → aevals E xs = some vs → CRel κ vs (xs.map a.eval)
  | [], vs, _, h => by simp only [aevals, Option.some.injEq] at h; subst h; exact .nil
  | x :: xs, vs, hx, h => by
    simp only [aevals] at h
    split at h
    · cases h
    · rename_i v hv
      split at h
      · cases h
      · rename_i us hus
        simp only [Option.some.injEq] at h; subst h
        exact (hx x (List.mem_cons_self ..) v hv).append (aevals_ok xs us (fun y hy => hx y (List.mem_cons_of_mem _ hy)) hus)

/-! ### lists of cells -/
/-- The cells behind the first o ones. -/
def dropW : List AV → Nat → Option (List AV)
  | c, 0 => some c
  | [], _ + 1 => none
  | x :: xs, o + 1 => bif Nat.ble (width x) (o + 1) then dropW xs (o + 1 - width x) else none
def takeW : List AV → Nat → Option (List AV)
  | _, 0 => some []
  | [], _ + 1 => none
  | x :: xs, o + 1 => bif Nat.ble (width x) (o + 1) then (match takeW xs (o + 1 - width x) with | some r => some (x :: r) | none => none) else none
theorem dropW_spec : ∀ (c : List AV) (o : Nat) (c' : List AV), dropW c o = some c' → ∃ c0, c = c0 ++ c' ∧ cw c0 = o
  | c, 0, c', h => by cases c <;> (simp only [dropW, Option.some.injEq] at h; subst h; exact ⟨[], rfl, rfl⟩)
  | [], o + 1, c', h => by simp [dropW] at h
  | x :: xs, o + 1, c', h => by
    simp only [dropW] at h
    cases hb : Nat.ble (width x) (o + 1) <;> rw [hb] at h
    · cases h
    · obtain ⟨c0, rfl, h1⟩ := dropW_spec xs _ c' h
      exact ⟨x :: c0, rfl, by simp only [cw, h1]; have := Nat.le_of_ble_eq_true hb; omega⟩
theorem takeW_spec : ∀ (c : List AV) (o : Nat) (c' : List AV), takeW c o = some c' → ∃ c1, c = c' ++ c1 ∧ cw c' = o
  | c, 0, c', h => by cases c <;> (simp only [takeW, Option.some.injEq] at h; subst h; exact ⟨_, rfl, rfl⟩)
  | [], o + 1, c', h => by simp [takeW] at h
  | x :: xs, o + 1, c', h => by
    simp only [takeW] at h
    cases hb : Nat.ble (width x) (o + 1) <;> rw [hb] at h
    · cases h
    · simp only [cond_true] at h
      split at h
      · rename_i r hr
        simp only [Option.some.injEq] at h; subst h
        obtain ⟨c1, rfl, h1⟩ := takeW_spec xs _ r hr
        exact ⟨c1, rfl, by simp only [cw, h1]; have := Nat.le_of_ble_eq_true hb; omega⟩
      · cases h
theorem CRel.dropW {κ : Kap} {c c' : List AV} {zs : List Value} {o : Nat} (r : CRel κ c zs) (h : Sv.dropW c o = some c') : CRel κ c' (zs.drop o) ∧ o ≤ zs.length := by
  obtain ⟨c0, rfl, h1⟩ := dropW_spec _ _ _ h
  have := r.length
  rw [cw_append, h1] at this
  have := r.split_at.2
  rw [h1] at this
  exact ⟨this, by omega⟩
theorem CRel.takeW {κ : Kap} {c c' : List AV} {zs : List Value} {o : Nat} (r : CRel κ c zs) (h : Sv.takeW c o = some c') : CRel κ c' (zs.take o) ∧ o ≤ zs.length := by
  obtain ⟨c1, rfl, h1⟩ := takeW_spec _ _ _ h
  have := r.length
  rw [cw_append, h1] at this
  have := r.split_at.1
  rw [h1] at this
  exact ⟨this, by omega⟩
/-- One cell. -/
theorem CRel.head {κ : Kap} {x : AV} {xs : List AV} {us : List Value} (r : CRel κ (x :: xs) us) (h : isArr x = false) : ∃ y ys, us = y :: ys ∧ VRel κ x y ∧ CRel κ xs ys := by
  obtain ⟨zs, ys, rfl, h1, h2⟩ := r.cons_inv
  have hl := h1.length
  cases x with
  | arr w n f us => simp [isArr] at h
  | _ =>
    simp only [cw, width] at hl
    match zs, hl with
    | [y], _ => exact ⟨y, ys, rfl, h1, h2⟩
theorem CRel.arr_inv {κ : Kap} {w n : Nat} {f : Nat → List AV} {es : List (Nat × List AV)} {xs : List AV} {us : List Value} (r : CRel κ (.arr w n f es :: xs) us) :
    n * w ≤ us.length ∧ (∀ i, i < n → cw (elt es f i) = w) ∧ (∀ i, i < n → CRel κ.nl (elt es f i) ((us.drop (i * w)).take w)) ∧ CRel κ xs (us.drop (n * w)) := by
  cases r with
  | arr _ _ _ _ zs h1 ho h2 h3 h4 h5 =>
    subst h4
    refine ⟨by simp [h1], h2, fun i hi => ?_, by rw [← h1]; simpa using h5⟩
    have := h3 i hi
    have hle : i * w + w ≤ zs.length := by
      rw [h1]
      have := Nat.mul_le_mul_right w (Nat.succ_le_of_lt hi)
      rw [Nat.succ_mul] at this; exact this
    rw [List.drop_append_of_le_length (by omega), List.take_append_of_le_length (by simp; omega)]
    exact this

theorem CRel.arr_one {κ : Kap} {w n : Nat} {f : Nat → List AV} {es : List (Nat × List AV)} {xs : List AV} {us : List Value} (r : CRel κ (.arr w n f es :: xs) us) : ∀ z ∈ us.take (n * w), oneV z = true := by
  cases r with
  | arr _ _ _ _ zs h1 ho h2 h3 h4 h5 =>
    subst h4
    intro z hz
    rw [← h1, List.take_left'] at hz
    · exact ho z hz
    · rfl
/-- An element, where the places that were set are asked one by one. -/
def eltK {R : Type} : List (Nat × List AV) → (Nat → List AV) → Nat → (List AV → Option R) → Option R
  | [], f, i, k => k (f i)
  | (j, c) :: us, f, i, k => bif Nat.beq i j then k c else eltK us f i k
theorem eltK_eq {R : Type} : ∀ (us : List (Nat × List AV)) (f : Nat → List AV) (i : Nat) (k : List AV → Option R), eltK us f i k = k (elt us f i)
  | [], _, _, _ => rfl
  | (j, c) :: us, f, i, k => by
    simp only [eltK, elt, eltK_eq us]
    cases Nat.beq i j <;> rfl
/-- The cells at a place. -/
def walk : List AV → List (Nat × Nat × Nat) → Option (List AV)
  | c, [] => some c
  | c, (o, i, w) :: ps =>
    match dropW c o with
    | some (.arr w' n f us :: _) => bif Nat.beq w w' && Nat.blt i n then walk (elt us f i) ps else none
    | _ => none
section
variable {R : Type}
/-- Likewise; a place of an array that is not known to be there is asked for. -/
def walkK : List AV → List (Nat × Nat × Nat) → (List AV → Option R) → Option R
  | c, [], k => k c
  | c, (o, i, w) :: ps, k =>
    match dropW c o with
    | some (.arr w' n f us :: _) => bif Nat.beq w w' then bif Nat.blt i n then eltK us f i fun c' => walkK c' ps k else none else none
    | _ => none
theorem walkK_some {r : R} : ∀ (ps : List (Nat × Nat × Nat)) (c : List AV) (k : List AV → Option R), walkK c ps k = some r → ∃ c', walk c ps = some c' ∧ k c' = some r
  | [], c, k, h => ⟨c, by cases c <;> rfl, by cases c <;> exact h⟩
  | (o, i, w) :: ps, c, k, h => by
    simp only [walkK] at h
    split at h
    · rename_i w' n f us rest hd
      cases h1 : Nat.beq w w' <;> rw [h1] at h
      · cases h
      · simp only [cond_true] at h
        cases h2 : Nat.blt i n <;> rw [h2] at h
        · cases h
        · simp only [cond_true, eltK_eq] at h
          obtain ⟨c', h3, h4⟩ := walkK_some ps _ k h
          exact ⟨c', by simp only [walk, hd, h1, h2, Bool.and_self, cond_true]; exact h3, h4⟩
    · cases h
end
theorem CRel.walk {κ : Kap} : ∀ (ps : List (Nat × Nat × Nat)) {c c' : List AV} {zs : List Value}, CRel κ c zs → Sv.walk c ps = some c' →
    plen ps + cw c' ≤ zs.length ∧ CRel (if ps = [] then κ else κ.nl) c' ((zs.drop (plen ps)).take (cw c'))
  | [], c, c', zs, r, h => by
    have : c = c' := by cases c <;> simpa [Sv.walk] using h
    subst this
    have hl := r.length
    simp only [plen, if_true, List.drop_zero]
    rw [List.take_of_length_le (by omega)]
    exact ⟨by omega, r⟩
  | (o, i, w) :: ps, c, c', zs, r, h => by
    simp only [Sv.walk] at h
    split at h
    · rename_i w' n f us rest hd
      cases hb : Nat.beq w w' && Nat.blt i n <;> rw [hb] at h
      · cases h
      · simp only [cond_true] at h
        simp only [Bool.and_eq_true] at hb
        have e1 := Nat.eq_of_beq_eq_true hb.1
        subst e1
        have hi : i < n := by simpa [Nat.blt_eq] using hb.2
        obtain ⟨h1, h2⟩ := r.dropW hd
        obtain ⟨a1, a2, a3, a4⟩ := h1.arr_inv
        have hr := a3 i hi
        obtain ⟨b1, b2⟩ := CRel.walk ps hr h
        have hn : (if ps = [] then κ.nl else κ.nl.nl) = κ.nl := by split <;> rfl
        rw [hn] at b2
        rw [if_neg (by simp)]
        have hle : i * w + w ≤ n * w := by
          have := Nat.mul_le_mul_right w (Nat.succ_le_of_lt hi)
          rw [Nat.succ_mul] at this; exact this
        simp only [List.length_take, List.length_drop] at a1 b1
        refine ⟨by simp only [plen]; omega, ?_⟩
        have e : ((zs.drop (plen ((o, i, w) :: ps))).take (cw c')) = (((((zs.drop o).drop (i * w)).take w).drop (plen ps)).take (cw c')) := by
          simp only [plen]
          rw [List.drop_take, List.take_take, List.drop_drop, List.drop_drop]
          rw [Nat.add_assoc, Nat.min_eq_left (by omega)]
        rw [e]; exact b2
    · cases h
end
end Go.Sv
namespace Go.Sv
noncomputable section
open Go.RowKit
variable {P : Program}

/-! ### what an operation comes to -/
/-- Its value, the rows it sets, how many new names it takes, the rows it looks at (or sets). -/
structure Ent where
  v : AV
  eff : List (Nat × Option Row)
  nx : Nat
  rd : List Nat
def Mem.sets (M : Mem) : List (Nat × Option Row) → Mem
  | [] => M
  | (n, r) :: l => (M.set n r).sets l

def OpOk (P : Program) (o : Oper) (E : Env) (next : Nat) (m : Mem) (e : Ent) : Prop :=
  ∀ (κ : Kap) (a : Act) (w : World) (M : Mem) (K : Act → World → Prop) (Q : Exit → Act → World → Prop), AOn κ o E a → MRel κ M w → (∀ n ∈ e.rd, M n = m n) →
    (∀ n, next ≤ n → n < next + e.nx → κ.loc n = none) →
    (∀ κ' v' w', κ.le κ' → (∀ n, n < next ∨ next + e.nx ≤ n → κ'.loc n = κ.loc n) → VRel κ' e.v v' → MRel κ' (M.sets e.eff) w' → Fr κ M w κ' (M.sets e.eff) w' → K (a.put o.dst v') w') → o.wp P a w K Q

theorem run_value {s : Sem Value} {w w' : World} {v : Value} (h : s.run P w = .ok v w') : (do pure (.value (← s)) : Sem Next).run P w = .ok (.value v) w' :=
  run_bind_ok (f := fun x => Sem.pure (Next.value x)) h
theorem run_skip {s : Sem Unit} {w w' : World} (h : s.run P w = .ok () w') : (do s; pure .skip : Sem Next).run P w = .ok .skip w' :=
  run_bind_ok (f := fun _ => Sem.pure Next.skip) h
theorem wp_value {o : Oper} {a : Act} {w w' : World} {v : Value} {K : Act → World → Prop} {Q : Exit → Act → World → Prop} (h : (execOp a.eval o).run P w = .ok (.value v) w') (hk : K (a.put o.dst v) w') : o.wp P a w K Q := by
  unfold Oper.wp; rw [h]; exact hk
theorem wp_skip' {o : Oper} {a : Act} {w w' : World} {K : Act → World → Prop} {Q : Exit → Act → World → Prop} (h : (execOp a.eval o).run P w = .ok .skip w') (hk : K (a.put o.dst undef) w') : o.wp P a w K Q := by
  unfold Oper.wp; rw [h]; exact hk

/-- It leaves the world as it is. -/
def StillOk (P : Program) (o : Oper) (E : Env) (m : Mem) (v : AV) (rd : List Nat) : Prop :=
  ∀ (κ : Kap) (a : Act) (w : World) (M : Mem), AOn κ o E a → MRel κ M w → (∀ n ∈ rd, M n = m n) → ∃ v', VRel κ v v' ∧ (execOp a.eval o).run P w = .ok (.value v') w
theorem StillOk.op {o : Oper} {E : Env} {next : Nat} {m : Mem} {v : AV} {rd : List Nat} (h : StillOk P o E m v rd) : OpOk P o E next m ⟨v, [], 0, rd⟩ :=
  fun κ a w M K Q hA hR hrd _ hK => by
    obtain ⟨v', hv, hrun⟩ := h κ a w M hA hR hrd
    exact wp_value hrun (hK κ v' w (Kap.le_refl κ) (fun _ _ => rfl) hv hR (Fr.refl κ M w))

theorem cond_some {R : Type} {b : Bool} {x : Option R} {r : R} (h : (bif b then x else none) = some r) : b = true ∧ x = some r := by
  cases b
  · cases h
  · exact ⟨rfl, h⟩
theorem cond_some' {R : Type} {b : Bool} {x : Option R} {r : R} (h : (bif b then none else x) = some r) : b = false ∧ x = some r := by
  cases b
  · exact ⟨rfl, h⟩
  · cases h

/-! ### values that bear no address -/
def toV : AV → Option Value
  | .bool b => some (.bool b)
  | .int k n => some (.int k n)
  | .str s => some (.string ⟨s.toArray⟩)
  | .raw v => some v
  | .fn f [] [] => some (.func (.func f) #[] #[])
  | _ => none
theorem toV_eq {κ : Kap} {x : AV} {y v : Value} (r : VRel κ x y) (h : toV x = some v) : y = v := by
  cases x with
  | bool b => cases r; simpa [toV] using h
  | int k n => cases r; simpa [toV] using h
  | str s => cases r; simpa [toV] using h
  | raw u => cases r; simpa [toV] using h
  | fn f a b =>
    cases a with
    | cons _ _ => simp [toV] at h
    | nil =>
      cases b with
      | cons _ _ => simp [toV] at h
      | nil =>
        simp only [toV, Option.some.injEq] at h
        subst h
        cases r with
        | fn _ _ _ xs ys h1 h2 _ => cases h1; cases h2; rfl
  | _ => simp [toV] at h
def rho (E : Env) (x : Operand) : Value :=
  match aeval E x with
  | some v => match toV v with
    | some u => u
    | none => undef
  | none => undef
def plainOps (E : Env) : List Operand → Bool
  | [] => true
  | x :: xs => match aeval E x with
    | none => false
    | some v => match toV v with
      | some _ => plainOps E xs
      | none => false
theorem plainOps_ok {κ : Kap} {E : Env} {a : Act} : ∀ (xs : List Operand), (∀ x ∈ xs, ∀ v, aeval E x = some v → VRel κ v (a.eval x)) → plainOps E xs = true → ∀ x ∈ xs, rho E x = a.eval x
  | [], _, _, x, hx => by cases hx
  | y :: ys, hA, h, x, hx => by
    simp only [plainOps] at h
    split at h
    · cases h
    · rename_i v hv
      split at h
      · rename_i u hu
        rcases List.mem_cons.1 hx with rfl | hx
        · simp only [rho, hv, hu]
          exact (toV_eq (hA x (List.mem_cons_self ..) v hv) hu).symm
        · exact plainOps_ok ys (fun z hz => hA z (List.mem_cons_of_mem _ hz)) h x hx
      · cases h
theorem select_no {ρ : Operand → Value} {o : Oper} {cs : Array SelectCase} {b : Bool} (ho : o.op = .select cs b) {v : Value} (h : qrun P (execOp ρ o) = some (.value v)) : False := by
  simp only [execOp, ho] at h
  obtain ⟨a, _, h⟩ := qrun_bind _ _ h
  simp [pure, qrun] at h

section
variable {R : Type} (P)
/-- An operation that looks at such values alone. -/
def pureE (o : Oper) (E : Env) (k : Ent → Option R) : Option R :=
  bif plainOps E o.op.operands.toList then
    match qrun P (execOp (rho E) o) with
    | some (.value v) => match ofV v with
      | some x => k ⟨x, [], 0, []⟩
      | none => none
    | _ => none
  else none
/-- What a variable of a type holds, out of the cells from its place on. -/
def readT (t : TypeId) (c : List AV) (k : AV → Option R) : Option R :=
  match qrun P (isAgg t) with
  | some false => match c with
    | x :: _ => bif isArr x then none else k x
    | [] => none
  | some true => match qrun P (sizeOf t) with
    | some s => bif Nat.beq s 0 then none else match takeW c s with
      | some c1 => k (.agg c1)
      | none => none
    | none => none
  | none => none
/-- The cells at a pointer. -/
def placeK (m : List (Nat × Row)) (x : AV) (k : List AV → List Nat → Option R) : Option R :=
  match x with
  | .ptr n ps o => match find m n with
    | some (.cells c _ _) => walkK c ps fun c' => match dropW c' o with
      | some c2 => k c2 [n]
      | none => none
    | _ => none
  | .sptr c o => match dropW c o with
    | some c2 => k c2 []
    | none => none
  | _ => none
def loadE (t : TypeId) (x : Operand) (E : Env) (m : List (Nat × Row)) (k : Ent → Option R) : Option R :=
  match aeval E x with
  | some p => placeK m p fun c rd => readT P t c fun v => k ⟨v, [], 0, rd⟩
  | none => none
def fieldAddrE (s : TypeId) (x : Operand) (f : Nat) (E : Env) (k : Ent → Option R) : Option R :=
  match qrun P (underlying s) with
  | some (.struct fields) => match fields[f]? with
    | none => none
    | some fd => match qrun P (sizeOf fd.type) with
      | none => none
      | some z => bif Nat.beq z 0 then none else
        match aeval E x with
        | some (.ptr n ps o) => k ⟨.ptr n ps (o + fd.offset), [], 0, []⟩
        | some (.sptr c o) => k ⟨.sptr c (o + fd.offset), [], 0, []⟩
        | _ => none
  | _ => none
def fieldE (s : TypeId) (x : Operand) (f : Nat) (E : Env) (k : Ent → Option R) : Option R :=
  match qrun P (underlying s) with
  | some (.struct fields) => match fields[f]? with
    | none => none
    | some fd => match aeval E x with
      | some (.agg c) => match dropW c fd.offset with
        | some c2 => readT P fd.type c2 fun v => k ⟨v, [], 0, []⟩
        | none => none
      | _ => none
  | _ => none
end
def add0 (a b : Nat) : Nat := bif Nat.beq a 0 then b else a + b
theorem add0_eq (a b : Nat) : add0 a b = a + b := by
  unfold add0
  cases h : Nat.beq a 0
  · rfl
  · have := Nat.eq_of_beq_eq_true h; subst this; simp

/-- Where cells lie in a world. -/
def Place (κ : Kap) (w : World) (a : Addr) (c : List AV) : Prop :=
  ∃ b off cs e fr, a = ⟨b, off, none⟩ ∧ w.heap[b]? = some (.cells cs e fr) ∧ off + cw c ≤ cs.size ∧ CRel κ c ((cs.toList.drop off).take (cw c))

theorem Place.drop {κ : Kap} {w : World} {b off : Nat} {c c' : List AV} {o : Nat} (h : Place κ w ⟨b, off, none⟩ c) (hd : dropW c o = some c') : Place κ w ⟨b, off + o, none⟩ c' := by
  obtain ⟨b', off', cs, e, fr, ha, h1, h2, h3⟩ := h
  cases ha
  obtain ⟨h4, h5⟩ := h3.dropW hd
  have hc : cw c = o + cw c' := by
    obtain ⟨c0, rfl, hc0⟩ := dropW_spec _ _ _ hd
    rw [cw_append, hc0]
  refine ⟨b, off + o, cs, e, fr, rfl, h1, by omega, ?_⟩
  rw [List.drop_take, List.drop_drop, hc, Nat.add_sub_cancel_left] at h4
  exact h4
theorem Place.take {κ : Kap} {w : World} {a : Addr} {c c' : List AV} {s : Nat} (h : Place κ w a c) (hd : takeW c s = some c') : Place κ w a c' ∧ cw c' = s := by
  obtain ⟨b', off', cs, e, fr, ha, h1, h2, h3⟩ := h
  obtain ⟨h4, h5⟩ := h3.takeW hd
  obtain ⟨c1, hc, hc1⟩ := takeW_spec _ _ _ hd
  have hle : s ≤ cw c := by rw [hc, cw_append, hc1]; omega
  refine ⟨⟨b', off', cs, e, fr, ha, h1, by omega, ?_⟩, hc1⟩
  rw [List.take_take, Nat.min_eq_left hle] at h4
  rw [hc1]; exact h4
theorem Place.elem {κ : Kap} {w : World} {b off : Nat} {W n : Nat} {f : Nat → List AV} {us : List (Nat × List AV)} {rest : List AV} (h : Place κ w ⟨b, off, none⟩ (.arr W n f us :: rest)) {i : Nat} (hi : i < n) : Place κ.nl w ⟨b, off + i * W, none⟩ (elt us f i) ∧ cw (elt us f i) = W := by
  obtain ⟨b', off', cs, e, fr, ha, h1, h2, h3⟩ := h
  cases ha
  obtain ⟨a1, a2, a3, a4⟩ := h3.arr_inv
  have hr := a3 i hi
  have hw := a2 i hi
  have hle : i * W + W ≤ n * W := by
    have := Nat.mul_le_mul_right W (Nat.succ_le_of_lt hi)
    rw [Nat.succ_mul] at this; exact this
  simp only [cw, width] at h2 hr
  refine ⟨⟨b, off + i * W, cs, e, fr, rfl, h1, by rw [hw]; omega, ?_⟩, hw⟩
  rw [hw]
  rw [List.drop_take, List.take_take, List.drop_drop, Nat.min_eq_left (by omega)] at hr
  exact hr
theorem Place.mono {κ κ' : Kap} (h : κ.le κ') {w : World} {a : Addr} {c : List AV} (p : Place κ w a c) : Place κ' w a c := by
  obtain ⟨b', off', cs, e, fr, ha, h1, h2, h3⟩ := p
  exact ⟨b', off', cs, e, fr, ha, h1, h2, h3.mono h⟩

theorem Place.walk {κ : Kap} {w : World} : ∀ (ps : List (Nat × Nat × Nat)) {b off : Nat} {c c' : List AV}, Place κ w ⟨b, off, none⟩ c → Sv.walk c ps = some c' → Place κ w ⟨b, off + plen ps, none⟩ c'
  | [], b, off, c, c', h, e => by
    have : c = c' := by cases c <;> simpa [Sv.walk] using e
    subst this; exact h
  | (o, i, W) :: ps, b, off, c, c', h, e => by
    simp only [Sv.walk] at e
    split at e
    · rename_i w' n f us rest hd
      cases hb : Nat.beq W w' && Nat.blt i n <;> rw [hb] at e
      · cases e
      · simp only [cond_true] at e
        simp only [Bool.and_eq_true] at hb
        have e1 := Nat.eq_of_beq_eq_true hb.1
        subst e1
        have hi : i < n := by simpa [Nat.blt_eq] using hb.2
        have := Place.walk ps (((h.drop hd).elem hi).1.mono κ.nl_le) e
        rw [show off + plen ((o, i, W) :: ps) = off + o + i * W + plen ps from by simp only [plen]; omega]
        exact this
    · cases e

/-- The cells of a row. -/
theorem MRel.place {κ : Kap} {M : Mem} {w : World} (h : MRel κ M w) {n b : Nat} {c : List AV} {own tip : Bool} (hn : M n = some (.cells c own tip)) (hb : κ.loc n = some (some b)) : Place κ w ⟨b, 0, none⟩ c := by
  rcases h.row n _ hn with ⟨h1, _⟩ | ⟨b', zs, rest, e, fr, h1, h2, h3, _⟩
  · rw [hb] at h1; cases h1
  · rw [hb] at h1; cases h1
    have hl := h3.length
    refine ⟨b, 0, _, e, fr, rfl, h2, by simp; omega, ?_⟩
    rw [List.drop_zero, ← hl]
    simp only [List.take_left]
    exact h3
theorem MRel.stable_place {κ : Kap} {M : Mem} {w : World} (h : MRel κ M w) {b off : Nat} {c : List AV} {cs zs : List Value} (hb : κ.st b = some cs) (hz : zs = (cs.drop off).take (cw c)) (hc : CRel κ.nl c zs) (hoff : off + cw c ≤ cs.length ∨ cw c ≠ 0) :
    Place κ w ⟨b, off, none⟩ c := by
  obtain ⟨rest, e, fr, h1⟩ := h.stable b cs hb
  have hl := hc.length
  have hle : off + cw c ≤ cs.length := by
    rcases hoff with h | h
    · exact h
    · rw [hz, List.length_take, List.length_drop] at hl; omega
  refine ⟨b, off, _, e, fr, rfl, h1, by simp; omega, ?_⟩
  have : ((cs ++ rest).toArray.toList.drop off).take (cw c) = zs := by
    rw [hz]
    simp only [List.drop_append_of_le_length (show off ≤ cs.length by omega)]
    rw [List.take_append_of_le_length (by simp; omega)]
  rw [this]; exact hc.mono κ.nl_le

theorem placeK_ok {R : Type} {m : List (Nat × Row)} {x : AV} {k : List AV → List Nat → Option R} {r : R} (h : placeK m x k = some r) :
    ∃ c rd, k c rd = some r ∧ ∀ (κ : Kap) (w : World) (M : Mem) (y : Value), MRel κ M w → (∀ n ∈ rd, M n = find m n) → VRel κ x y → cw c ≠ 0 → ∃ a, y = .pointer (some a) ∧ Place κ w a c := by
  unfold placeK at h
  split at h
  · rename_i n ps o
    split at h
    · rename_i c own tip hf
      obtain ⟨c', hw, h2⟩ := walkK_some _ _ _ h
      split at h2
      · rename_i c2 hd
        refine ⟨c2, [n], h2, fun κ w M y hR hrd hv _ => ?_⟩
        cases hv with
        | ptr _ p _ b _ h3 h4 _ =>
          have hM : M n = some (.cells c own tip) := by rw [hrd n (List.mem_singleton.2 rfl)]; exact hf
          refine ⟨_, rfl, ?_⟩
          have := ((hR.place hM h3).walk ps hw).drop hd
          rw [h4]; simpa using this
      · cases h2
    · cases h
  · rename_i c o
    split at h
    · rename_i c2 hd
      refine ⟨c2, [], h, fun κ w M y hR hrd hv hc => ?_⟩
      cases hv with
      | sptr _ cs zs b off p _ h1 h2 h3 h4 _ =>
        have hne : cw c ≠ 0 := by
          obtain ⟨c0, rfl, hc0⟩ := dropW_spec _ _ _ hd
          rw [cw_append]; omega
        refine ⟨_, rfl, ?_⟩
        rw [h4]
        exact (hR.stable_place h1 h2 h3 (.inr hne)).drop hd
    · cases h
  · cases h

theorem readT_ok {R : Type} {t : TypeId} {c : List AV} {k : AV → Option R} {r : R} (h : readT P t c k = some r) : cw c ≠ 0 ∧ ∃ v, k v = some r ∧
    (∀ (κ : Kap) (w : World) (a : Addr), Place κ w a c → ∃ v', VRel κ v v' ∧ (loadVar t a).run P w = .ok v' w) ∧
    (∀ (κ : Kap) (w : World) (cs : Array Value) (off : Nat), CRel κ c ((cs.toList.drop off).take (cw c)) → ∃ v', VRel κ v v' ∧ (part t cs off).run P w = .ok v' w) := by
  unfold readT at h
  split at h
  · rename_i hagg
    split at h
    · rename_i x rest
      obtain ⟨hx, h⟩ := cond_some' h
      have hw : width x = 1 := by cases x <;> first | rfl | (simp [isArr] at hx; done)
      refine ⟨by simp only [cw, hw]; omega, x, h, fun κ w a hp => ?_, fun κ w cs off hp => ?_⟩
      · obtain ⟨b, off, cs, e, fr, rfl, h1, h2, h3⟩ := hp
        obtain ⟨y, ys, hy, h4, _⟩ := h3.head hx
        refine ⟨y, h4, ?_⟩
        refine (run_q hagg).trans ?_
        have hc : w.cell? ⟨b, off, none⟩ = some y := by
          rw [cell_blk h1]
          have : (List.take (cw (x :: rest)) (List.drop off cs.toList))[0]? = some y := by rw [hy]; rfl
          rw [List.getElem?_take] at this
          split at this
          · rw [List.getElem?_drop] at this; simpa using this
          · cases this
        simp only [Bool.false_eq_true, if_false, load, Sem.run, hc]
      · obtain ⟨y, ys, hy, h4, _⟩ := hp.head hx
        refine ⟨y, h4, ?_⟩
        unfold part
        refine (run_q hagg).trans ?_
        have : cs[off]? = some y := by
          have : (List.take (cw (x :: rest)) (List.drop off cs.toList))[0]? = some y := by rw [hy]; rfl
          rw [List.getElem?_take] at this
          split at this
          · rw [List.getElem?_drop] at this; simpa using this
          · cases this
        simp only [Bool.false_eq_true, if_false, this]; rfl
    · cases h
  · rename_i hagg
    split at h
    · rename_i s hs
      obtain ⟨hs0, h⟩ := cond_some' h
      split at h
      · rename_i c1 htk
        have hne : s ≠ 0 := fun e => by subst e; simp at hs0
        obtain ⟨c2, hc, hc1⟩ := takeW_spec _ _ _ htk
        refine ⟨by rw [hc, cw_append]; omega, _, h, fun κ w a hp => ?_, fun κ w cs off hp => ?_⟩
        · obtain ⟨⟨b, off, cs, e, fr, rfl, h1, h2, h3⟩, hcs⟩ := hp.take htk
          refine ⟨_, .agg _ _ h3 .nil, ?_⟩
          refine (run_q hagg).trans ?_
          simp only [if_true]
          refine (run_q hs).trans ?_
          rw [hcs] at h2 ⊢
          exact (run_bind_ok (run_loadCells h1 off s h2)).trans rfl
        · obtain ⟨h3, h4⟩ := hp.takeW htk
          have hle : s ≤ cw c := by rw [hc, cw_append]; omega
          rw [List.take_take, Nat.min_eq_left hle] at h3
          refine ⟨_, .agg _ _ h3 .nil, ?_⟩
          unfold part
          refine (run_q hagg).trans ?_
          simp only [if_true]
          refine (run_q hs).trans ?_
          have : cs.extract off (off + s) = ⟨(cs.toList.drop off).take s⟩ := by
            apply Array.ext'
            simp
          rw [this]; rfl
      · cases h
    · cases h
  · cases h

theorem pureE_ok {R : Type} {o : Oper} {E : Env} {k : Ent → Option R} {r : R} (h : pureE P o E k = some r) : ∃ v, k ⟨v, [], 0, []⟩ = some r ∧ ∀ m, StillOk P o E m v [] := by
  unfold pureE at h
  obtain ⟨hp, h⟩ := cond_some h
  split at h
  · rename_i v hq
    split at h
    · rename_i x hx
      refine ⟨x, h, fun m κ a w M hA hR _ => ⟨v, ofV_ok hx, ?_⟩⟩
      have hcong : execOp (rho E) o = execOp a.eval o :=
        execOp_congr o (fun cs b e => select_no (P := P) e hq) (fun x hx => plainOps_ok _ (fun x hx => hA x (by simpa using hx)) hp x (by simpa using hx))
      rw [hcong] at hq
      exact qrun_run _ hq w
    · cases h
  · cases h

theorem loadE_ok {R : Type} {o : Oper} {t : TypeId} {x : Operand} (ho : o.op = .load t x) {E : Env} {m : List (Nat × Row)} {k : Ent → Option R} {r : R} (h : loadE P t x E m k = some r) :
    ∃ v rd, k ⟨v, [], 0, rd⟩ = some r ∧ StillOk P o E (find m) v rd := by
  unfold loadE at h
  split at h
  · rename_i p hp
    obtain ⟨c, rd, h1, h2⟩ := placeK_ok h
    obtain ⟨hne, v, h3, h4, _⟩ := readT_ok h1
    refine ⟨v, rd, h3, fun κ a w M hA hR hrd => ?_⟩
    obtain ⟨ad, hy, hpl⟩ := h2 κ w M _ hR hrd (hA x (by rw [ho]; simp [Op.operands]) p hp) hne
    obtain ⟨v', hv, hrun⟩ := h4 κ w ad hpl
    refine ⟨v', hv, ?_⟩
    simp only [execOp, ho]
    refine run_value ?_
    simp only [Instr.loadAt, hy, Instr.sureAddr]
    exact hrun
  · cases h

theorem fieldAddrE_ok {R : Type} {o : Oper} {s : TypeId} {x : Operand} {f : Nat} (ho : o.op = .fieldAddr s x f) {E : Env} {k : Ent → Option R} {r : R} (h : fieldAddrE P s x f E k = some r) :
    ∃ v, k ⟨v, [], 0, []⟩ = some r ∧ ∀ m, StillOk P o E m v [] := by
  have hmem : x ∈ o.op.operands := by rw [ho]; simp [Op.operands]
  unfold fieldAddrE at h
  split at h
  · rename_i fields hs
    split at h
    · cases h
    · rename_i fd hfd
      split at h
      · cases h
      · rename_i z hz
        obtain ⟨hz0, h⟩ := cond_some' h
        have hz' : z ≠ 0 := fun e => by subst e; simp at hz0
        have key : ∀ (a : Act) (w : World) (b off : Nat), a.eval x = .pointer (some ⟨b, off, none⟩) → (execOp a.eval o).run P w = .ok (.value (.pointer (some ⟨b, off + fd.offset, none⟩))) w := by
          intro a w b off hea
          simp only [execOp, ho]
          refine run_value ?_
          simp only [Instr.fieldAt, hea, Instr.sureAddr]
          refine (run_q hs).trans ?_
          simp only [hfd]
          refine (run_bind_ok (a := ⟨b, off, none⟩) (w' := w) rfl).trans ?_
          refine (run_bind_ok (a := ⟨b, off + fd.offset, none⟩) (w' := w) ?_).trans rfl
          unfold fieldPlace
          refine (run_q hz).trans ?_
          rw [if_neg hz', addr_add]
          rfl
        split at h
        · rename_i n ps o' hx
          refine ⟨_, h, fun m κ a w M hA hR _ => ?_⟩
          have hp := hA x hmem _ hx
          generalize hea : a.eval x = ev at hp
          cases hp with
          | ptr _ p _ b _ h3 h4 _ =>
            exact ⟨_, .ptr n _ _ b ps h3 (by rw [h4, Nat.add_assoc]) .nil, key a w b p hea⟩
        · rename_i c o' hx
          refine ⟨_, h, fun m κ a w M hA hR _ => ?_⟩
          have hp := hA x hmem _ hx
          generalize hea : a.eval x = ev at hp
          cases hp with
          | sptr _ cs zs b off p _ h1 h2 h3 h4 _ =>
            exact ⟨_, .sptr c cs zs b off _ _ h1 h2 h3 (by rw [h4, Nat.add_assoc]) .nil, key a w b p hea⟩
        · cases h
  · cases h

theorem fieldE_ok {R : Type} {o : Oper} {s : TypeId} {x : Operand} {f : Nat} (ho : o.op = .field s x f) {E : Env} {k : Ent → Option R} {r : R} (h : fieldE P s x f E k = some r) :
    ∃ v, k ⟨v, [], 0, []⟩ = some r ∧ ∀ m, StillOk P o E m v [] := by
  have hmem : x ∈ o.op.operands := by rw [ho]; simp [Op.operands]
  unfold fieldE at h
  split at h
  · rename_i fields hs
    split at h
    · cases h
    · rename_i fd hfd
      split at h
      · rename_i c hx
        split at h
        · rename_i c2 hd
          obtain ⟨_, v, h3, _, h4⟩ := readT_ok h
          refine ⟨v, h3, fun m κ a w M hA hR _ => ?_⟩
          have hp := hA x hmem _ hx
          generalize hea : a.eval x = ev at hp
          cases hp with
          | agg _ zs h1 _ =>
            have hd1 := (h1.dropW hd).1
            obtain ⟨v', hv, hrun⟩ := h4 κ w ⟨zs⟩ fd.offset (by rw [List.take_of_length_le (Nat.le_of_eq hd1.length)]; exact hd1)
            refine ⟨v', hv, ?_⟩
            simp only [execOp, ho]
            refine run_value ?_
            simp only [Instr.field, hea, asAgg]
            refine (run_q hs).trans ?_
            simp only [hfd]
            exact (run_bind_ok (a := ⟨zs⟩) (w' := w) rfl).trans hrun
        · cases h
      · cases h
  · cases h

/-! ### elements -/
section
variable {R : Type} (P)
def indexAddrE (t : TypeId) (x y : Operand) (E : Env) (k : Ent → Option R) : Option R :=
  match aeval E y with
  | some (.int _ i) =>
    match qrun P (underlying t) with
    | some (.slice e) =>
      match qrun P (sizeOf e) with
      | some s => match aeval E x with
        | some (.slc n ps o i0 w len _) => bif Nat.beq s w then bif decide (0 ≤ i) then bif decide (i < (len : Int)) then k ⟨.ptr n (ps ++ [(o, add0 i0 i.toNat, w)]) 0, [], 0, []⟩ else none else none else none
        | some (.lst w f len us) => bif Nat.beq s w then bif decide (0 ≤ i) then bif decide (i < (len : Int)) then eltK us f i.toNat fun c => k ⟨.sptr c 0, [], 0, []⟩ else none else none else none
        | _ => none
      | none => none
    | some (.array len e) =>
      match qrun P (sizeOf e) with
      | some s => match aeval E x with
        | some (.ptr n ps o) => bif decide (0 ≤ i) then bif decide (i < (len : Int)) then k ⟨.ptr n (ps ++ [(o, i.toNat, s)]) 0, [], 0, []⟩ else none else none
        | some (.sptr c o) => match dropW c o with
          | some (.arr w n f us :: _) => bif Nat.beq s w && Nat.ble len n then bif decide (0 ≤ i) then bif decide (i < (len : Int)) then eltK us f i.toNat fun c => k ⟨.sptr c 0, [], 0, []⟩ else none else none else none
          | _ => none
        | _ => none
      | none => none
    | _ => none
  | _ => none
def indexE (t : TypeId) (x y : Operand) (E : Env) (k : Ent → Option R) : Option R :=
  match aeval E y with
  | some (.int _ i) =>
    match qrun P (underlying t) with
    | some (.array len e) =>
      match qrun P (sizeOf e) with
      | some s => match aeval E x with
        | some (.agg (.arr w n f us :: _)) => bif Nat.beq s w && Nat.ble len n then bif decide (0 ≤ i) then bif decide (i < (len : Int)) then eltK us f i.toNat fun c => readT P e c fun v => k ⟨v, [], 0, []⟩ else none else none else none
        | _ => none
      | none => none
    | some .string => match aeval E x with
      | some (.str l) => bif decide (0 ≤ i) then bif decide (i < (l.length : Int)) then k ⟨.int .u8 ((l.getD i.toNat 0).toNat : Int), [], 0, []⟩ else none else none
      | _ => none
    | _ => none
  | _ => none
end
theorem int_of {κ : Kap} {k : IntKind} {i : Int} {y : Value} (h : VRel κ (.int k i) y) : y = .int k i := by
  cases h; rfl

theorem indexAddrE_ok {R : Type} {o : Oper} {t : TypeId} {x y : Operand} (ho : o.op = .indexAddr t x y) {E : Env} {k : Ent → Option R} {r : R} (h : indexAddrE P t x y E k = some r) :
    ∃ v, k ⟨v, [], 0, []⟩ = some r ∧ ∀ m, StillOk P o E m v [] := by
  have hmx : x ∈ o.op.operands := by rw [ho]; simp [Op.operands]
  have hmy : y ∈ o.op.operands := by rw [ho]; simp [Op.operands]
  unfold indexAddrE at h
  split at h
  · rename_i kd i hy
    split at h
    · rename_i e ht
      split at h
      · rename_i s hs
        have key : ∀ (a : Act) (w : World) (ad : Addr) (len cap : Nat) (κ : Kap), AOn κ o E a → a.eval x = .slice (some ad) len cap → 0 ≤ i → i < (len : Int) →
            (execOp a.eval o).run P w = .ok (.value (.pointer (some (ad.add (i.toNat * s))))) w := by
          intro a w ad len cap κ hA hea h0 h1
          have hi := int_of (hA y hmy _ hy)
          simp only [execOp, ho, hi, hea]
          refine run_value ?_
          unfold Instr.indexAt
          refine (run_bind_ok (e := asIntOf (.int kd i)) (a := (kd, i)) (w' := w) rfl).trans ?_
          refine (run_q ht).trans ?_
          refine (run_bind_ok (e := (pure (some ad, len, e) : Sem (Option Addr × Nat × TypeId))) (a := (some ad, len, e)) (w' := w) rfl).trans ?_
          refine (run_q ht).trans ?_
          simp only [h0, h1, and_self, if_true]
          exact (run_q hs).trans rfl
        split at h
        · rename_i n ps o' i0 w0 len cap hx
          obtain ⟨hw, g1⟩ := cond_some h; clear h
          obtain ⟨h0', g2⟩ := cond_some g1; clear g1
          obtain ⟨h1', h⟩ := cond_some g2; clear g2; try simp only [eltK_eq] at h
          have h0 := of_decide_eq_true h0'
          have h1 := of_decide_eq_true h1'
          have := Nat.eq_of_beq_eq_true hw; subst this
          refine ⟨_, h, fun m κ a w M hA hR _ => ?_⟩
          have hp := hA x hmx _ hx
          generalize hea : a.eval x = ev at hp
          cases hp with
          | slc _ _ _ _ _ _ _ b cap' ad h3 h4 h5 h6 _ =>
            have hne : cap' ≠ 0 := by omega
            obtain ⟨had, _⟩ := h4.resolve_left hne
            subst had
            refine ⟨_, .ptr n _ 0 b _ h3 rfl .nil, ?_⟩
            rw [key a w _ len cap' κ hA hea h0 h1, addr_add]
            simp only [plen_append, plen, add0_eq]
            rw [show plen ps + o' + i0 * s + i.toNat * s = plen ps + (o' + (i0 + i.toNat) * s + 0) + 0 from by rw [Nat.add_mul]; omega]
          | slc0 _ _ _ _ _ h3 _ => omega
        · rename_i w0 f len us hx
          obtain ⟨hw, g1⟩ := cond_some h; clear h
          obtain ⟨h0', g2⟩ := cond_some g1; clear g1
          obtain ⟨h1', h⟩ := cond_some g2; clear g2; try simp only [eltK_eq] at h
          have h0 := of_decide_eq_true h0'
          have h1 := of_decide_eq_true h1'
          have := Nat.eq_of_beq_eq_true hw; subst this
          refine ⟨_, h, fun m κ a w M hA hR _ => ?_⟩
          have hp := hA x hmx _ hx
          generalize hea : a.eval x = ev at hp
          have hi : i.toNat < len := by omega
          cases hp with
          | lst _ _ b off cap _ _ cs h3 h4 h5 hov h6 h7 _ =>
            refine ⟨_, .sptr (elt us f i.toNat) cs _ b (off + i.toNat * s) _ 0 h3 rfl (by rw [h6 _ hi]; exact h7 _ hi) rfl .nil, ?_⟩
            rw [key a w _ len cap κ hA hea h0 h1, addr_add]; rfl
          | lst0 _ _ _ _ _ _ => omega
        · cases h
      · cases h
    · rename_i len e ht
      split at h
      · rename_i s hs
        have key : ∀ (a : Act) (w : World) (ad : Addr) (κ : Kap), AOn κ o E a → a.eval x = .pointer (some ad) → 0 ≤ i → i < (len : Int) →
            (execOp a.eval o).run P w = .ok (.value (.pointer (some (ad.add (i.toNat * s))))) w := by
          intro a w ad κ hA hea h0 h1
          have hi := int_of (hA y hmy _ hy)
          simp only [execOp, ho, hi, hea]
          refine run_value ?_
          unfold Instr.indexAt
          refine (run_bind_ok (e := asIntOf (.int kd i)) (a := (kd, i)) (w' := w) rfl).trans ?_
          refine (run_q ht).trans ?_
          refine (run_bind_ok (e := Instr.sureAddr (.pointer (some ad))) (a := ad) (w' := w) rfl).trans ?_
          refine (run_bind_ok (e := (pure (some ad, len, e) : Sem (Option Addr × Nat × TypeId))) (a := (some ad, len, e)) (w' := w) rfl).trans ?_
          refine (run_q ht).trans ?_
          simp only [h0, h1, and_self, if_true]
          exact (run_q hs).trans rfl
        split at h
        · rename_i n ps o' hx
          obtain ⟨h0', h⟩ := cond_some h
          obtain ⟨h1', h⟩ := cond_some h
          have h0 := of_decide_eq_true h0'
          have h1 := of_decide_eq_true h1'
          refine ⟨_, h, fun m κ a w M hA hR _ => ?_⟩
          have hp := hA x hmx _ hx
          generalize hea : a.eval x = ev at hp
          cases hp with
          | ptr _ p _ b _ h3 h4 _ =>
            refine ⟨_, .ptr n _ 0 b _ h3 rfl .nil, ?_⟩
            rw [key a w _ κ hA hea h0 h1, addr_add, h4]
            simp only [plen_append, plen]
            rw [show plen ps + o' + i.toNat * s = plen ps + (o' + i.toNat * s + 0) + 0 from by omega]
        · rename_i c o' hx
          split at h
          · rename_i w0 n f us rest hd
            obtain ⟨hw, g1⟩ := cond_some h; clear h
            simp only [Bool.and_eq_true] at hw
            have hn := Nat.le_of_ble_eq_true hw.2
            obtain ⟨h0', g2⟩ := cond_some g1; clear g1
            obtain ⟨h1', h⟩ := cond_some g2; clear g2; try simp only [eltK_eq] at h
            have h0 := of_decide_eq_true h0'
            have h1 := of_decide_eq_true h1'
            have := Nat.eq_of_beq_eq_true hw.1; subst this
            refine ⟨_, h, fun m κ a w M hA hR _ => ?_⟩
            have hp := hA x hmx _ hx
            generalize hea : a.eval x = ev at hp
            have hi : i.toNat < n := by omega
            cases hp with
            | sptr _ cs zs b off p _ h3 h4 h5 h6 _ =>
              obtain ⟨g1, g2⟩ := h5.dropW hd
              obtain ⟨a1, a2, a3, a4⟩ := g1.arr_inv
              have ha := a3 _ hi
              have hcw := a2 _ hi
              obtain ⟨c0, hc0, hc0w⟩ := dropW_spec _ _ _ hd
              have hcwc : cw c = o' + (n * s + cw rest) := by rw [hc0, cw_append, hc0w]; simp [cw, width]
              have hle : i.toNat * s + s ≤ n * s := by
                have := Nat.mul_le_mul_right s (Nat.succ_le_of_lt hi)
                rw [Nat.succ_mul] at this; exact this
              refine ⟨_, .sptr (elt us f i.toNat) cs _ b (off + o' + i.toNat * s) _ 0 h3 rfl ?_ rfl .nil, ?_⟩
              · rw [hcw]
                have e1 : ((List.drop o' zs).drop (i.toNat * s)).take s = (cs.drop (off + o' + i.toNat * s)).take s := by
                  rw [h4, List.drop_take, List.drop_take, List.take_take, List.drop_drop, List.drop_drop]
                  rw [Nat.min_eq_left (by omega), Nat.add_assoc]
                rw [e1] at ha; exact ha
              · rw [key a w _ κ hA hea h0 h1, addr_add, h6]; rfl
          · cases h
        · cases h
      · cases h
    · cases h
  · cases h

theorem indexE_ok {R : Type} {o : Oper} {t : TypeId} {x y : Operand} (ho : o.op = .index t x y) {E : Env} {k : Ent → Option R} {r : R} (h : indexE P t x y E k = some r) :
    ∃ v, k ⟨v, [], 0, []⟩ = some r ∧ ∀ m, StillOk P o E m v [] := by
  have hmx : x ∈ o.op.operands := by rw [ho]; simp [Op.operands]
  have hmy : y ∈ o.op.operands := by rw [ho]; simp [Op.operands]
  unfold indexE at h
  split at h
  · rename_i kd i hy
    split at h
    · rename_i len e ht
      split at h
      · rename_i s hs
        split at h
        · rename_i w0 n f us rest hx
          obtain ⟨hw, g1⟩ := cond_some h; clear h
          simp only [Bool.and_eq_true] at hw
          have hn := Nat.le_of_ble_eq_true hw.2
          obtain ⟨h0', g2⟩ := cond_some g1; clear g1
          obtain ⟨h1', h⟩ := cond_some g2; clear g2; try simp only [eltK_eq] at h
          have h0 := of_decide_eq_true h0'
          have h1 := of_decide_eq_true h1'
          have := Nat.eq_of_beq_eq_true hw.1; subst this
          obtain ⟨_, v, h3, _, h4⟩ := readT_ok h
          refine ⟨v, h3, fun m κ a w M hA hR _ => ?_⟩
          have hp := hA x hmx _ hx
          generalize hea : a.eval x = ev at hp
          have hi : i.toNat < n := by omega
          cases hp with
          | agg _ zs g1 _ =>
            obtain ⟨a1, a2, a3, a4⟩ := g1.arr_inv
            have ha := a3 _ hi
            have hcw := a2 _ hi
            have hle : i.toNat * s + s ≤ n * s := by
              have := Nat.mul_le_mul_right s (Nat.succ_le_of_lt hi)
              rw [Nat.succ_mul] at this; exact this
            obtain ⟨v', hv, hrun⟩ := h4 κ w ⟨zs⟩ (i.toNat * s) (by rw [hcw]; exact ha.mono κ.nl_le)
            refine ⟨v', hv, ?_⟩
            have hi2 := int_of (hA y hmy _ hy)
            simp only [execOp, ho, hi2, hea]
            refine run_value ?_
            unfold Instr.index
            refine (run_bind_ok (e := asIntOf (.int kd i)) (a := (kd, i)) (w' := w) rfl).trans ?_
            refine (run_q ht).trans ?_
            simp only [h0, h1, and_self, if_true]
            exact (run_q hs).trans hrun
        · cases h
      · cases h
    · rename_i ht
      split at h
      · rename_i l hx
        obtain ⟨h0', h⟩ := cond_some h
        obtain ⟨h1', h⟩ := cond_some h
        have h0 := of_decide_eq_true h0'
        have h1 := of_decide_eq_true h1'
        refine ⟨_, h, fun m κ a w M hA hR _ => ?_⟩
        have hp := hA x hmx _ hx
        generalize hea : a.eval x = ev at hp
        cases hp with
        | str _ _ =>
          refine ⟨_, .int _ _ .nil, ?_⟩
          have hi2 := int_of (hA y hmy _ hy)
          simp only [execOp, ho, hi2, hea]
          refine run_value ?_
          unfold Instr.index
          refine (run_bind_ok (e := asIntOf (.int kd i)) (a := (kd, i)) (w' := w) rfl).trans ?_
          refine (run_q ht).trans ?_
          have hlt : i.toNat < l.length := by omega
          have hget : (⟨l.toArray⟩ : ByteArray)[i.toNat]? = some l[i.toNat] := by
            rw [getElem?_pos _ _ (by show i.toNat < l.toArray.size; simpa using hlt)]; rfl
          simp only [if_pos h0, hget]
          rw [List.getD_eq_getElem?_getD, List.getElem?_eq_getElem hlt]; rfl
      · cases h
    · cases h
  · cases h
end
end Go.Sv
namespace Go.Sv
noncomputable section
open Go.RowKit
variable {P : Program}

/-! ### cells in the place of others -/
theorem splice_get {α : Type} (l : List α) (o : Nat) (vs : List α) (h : o + vs.length ≤ l.length) (k : Nat) : (splice l o vs)[k]? = if o ≤ k ∧ k < o + vs.length then vs[k - o]? else l[k]? := by
  unfold splice
  rw [List.getElem?_append]
  simp only [List.length_take, Nat.min_eq_left (show o ≤ l.length by omega)]
  by_cases h1 : k < o
  · rw [if_pos h1, if_neg (by omega), List.getElem?_take, if_pos h1]
  · rw [if_neg h1, List.getElem?_append]
    by_cases h2 : k - o < vs.length
    · rw [if_pos h2, if_pos (by omega)]
    · rw [if_neg h2, if_neg (by omega), List.getElem?_drop]
      congr 1; omega
theorem splice_append {α : Type} (a b c d : List α) (o : Nat) (vs : List α) (ho : a.length = o) (hb : b.length = vs.length) : splice (a ++ (b ++ c) ++ d) o vs = a ++ (vs ++ c) ++ d := by
  subst ho
  unfold splice
  simp [← hb]
theorem splice_elem {α : Type} {zc e : List α} {n w i j : Nat} (hl : zc.length = n * w) (he : e.length = w) (hi : i < n) : ((splice zc (i * w) e).drop (j * w)).take w = if j = i then e else (zc.drop (j * w)).take w := by
  have hle : i * w + w ≤ n * w := by
    have := Nat.mul_le_mul_right w (Nat.succ_le_of_lt hi)
    rw [Nat.succ_mul] at this; exact this
  apply List.ext_getElem?
  intro k
  rw [List.getElem?_take]
  by_cases hk : k < w
  · rw [if_pos hk, List.getElem?_drop, splice_get _ _ _ (by omega)]
    by_cases hji : j = i
    · subst hji
      rw [if_pos rfl, if_pos (by omega)]
      congr 1; omega
    · rw [if_neg hji, List.getElem?_take, if_pos hk, List.getElem?_drop, if_neg]
      rintro ⟨h1, h2⟩
      rcases Nat.lt_or_gt_of_ne hji with h | h
      · have := Nat.mul_le_mul_right w (Nat.succ_le_of_lt h)
        rw [Nat.succ_mul] at this; omega
      · have := Nat.mul_le_mul_right w (Nat.succ_le_of_lt h)
        rw [Nat.succ_mul] at this; omega
  · rw [if_neg hk]
    by_cases hji : j = i
    · rw [if_pos hji, List.getElem?_eq_none (by omega)]
    · rw [if_neg hji, List.getElem?_take, if_neg hk]
theorem splice_splice {α : Type} {z1 zc z3 : List α} {n w i off : Nat} {ys : List α} (hl : zc.length = n * w) (hi : i < n) (ho : off + ys.length ≤ w) :
    splice (z1 ++ (zc ++ z3)) (z1.length + (i * w + off)) ys = z1 ++ (splice zc (i * w) (splice ((zc.drop (i * w)).take w) off ys) ++ z3) := by
  have hle : i * w + w ≤ n * w := by
    have := Nat.mul_le_mul_right w (Nat.succ_le_of_lt hi)
    rw [Nat.succ_mul] at this; exact this
  have hel : ((zc.drop (i * w)).take w).length = w := by simp; omega
  have hsl : (splice ((zc.drop (i * w)).take w) off ys).length = w := by rw [splice_length _ _ _ (by omega)]; exact hel
  apply List.ext_getElem?
  intro k
  rw [splice_get _ _ _ (by simp; omega)]
  rw [List.getElem?_append (l₁ := z1), List.getElem?_append (l₁ := z1)]
  by_cases h1 : k < z1.length
  · rw [if_pos h1, if_neg (by omega), if_pos h1]
  · rw [if_neg h1, if_neg h1, List.getElem?_append, List.getElem?_append, splice_length _ _ _ (by omega)]
    by_cases h2 : k - z1.length < zc.length
    · rw [if_pos h2, if_pos h2, splice_get _ _ _ (by omega), hsl]
      by_cases h3 : i * w ≤ k - z1.length ∧ k - z1.length < i * w + w
      · rw [if_pos h3, splice_get _ _ _ (by omega)]
        by_cases h4 : z1.length + (i * w + off) ≤ k ∧ k < z1.length + (i * w + off) + ys.length
        · rw [if_pos h4, if_pos (by omega)]
          congr 1; omega
        · rw [if_neg h4, if_neg (by omega), List.getElem?_take, if_pos (by omega), List.getElem?_drop]
          congr 1; omega
      · rw [if_neg h3, if_neg (by omega)]
    · rw [if_neg h2, if_neg h2, if_neg (by omega)]

theorem splice_one {l vs : List Value} {o : Nat} (h1 : ∀ z ∈ l, oneV z = true) (h2 : ∀ z ∈ vs, oneV z = true) : ∀ z ∈ splice l o vs, oneV z = true := by
  intro z hz
  unfold splice at hz
  rcases List.mem_append.1 hz with h | h
  · exact h1 z (List.mem_of_mem_take h)
  · rcases List.mem_append.1 h with h | h
    · exact h2 z h
    · exact h1 z (List.mem_of_mem_drop h)

def putFlat : List AV → Nat → Nat → List AV → Option (List AV)
  | c, 0, s, vs => match dropW c s with
    | some r => some (vs ++ r)
    | none => none
  | [], _ + 1, _, _ => none
  | x :: xs, o + 1, s, vs => bif Nat.ble (width x) (o + 1) then (match putFlat xs (o + 1 - width x) s vs with | some r => some (x :: r) | none => none) else none
section
variable {R : Type}
def updAtK : List AV → Nat → (AV → (AV → Option R) → Option R) → (List AV → Option R) → Option R
  | [], _, _, _ => none
  | x :: xs, 0, g, k => g x fun y => k (y :: xs)
  | x :: xs, o + 1, g, k => bif Nat.ble (width x) (o + 1) then updAtK xs (o + 1 - width x) g fun r => k (x :: r) else none
/-- Cells at a place are set. -/
def putK : List (Nat × Nat × Nat) → List AV → Nat → Nat → List AV → (List AV → Option R) → Option R
  | [], c, o, s, vs, k => match putFlat c o s vs with
    | some c' => k c'
    | none => none
  | (o1, i, w) :: ps, c, o, s, vs, k => updAtK c o1 (fun x k' => match x with
    | .arr w' n f us => bif Nat.beq w w' then bif Nat.blt i n then eltK us f i fun cell => putK ps cell o s vs fun e => k' (.arr w' n f ((i, e) :: us)) else none else none
    | _ => none) k
end

theorem putFlat_spec {s : Nat} {vs : List AV} : ∀ (c : List AV) (o : Nat) (c' : List AV), putFlat c o s vs = some c' → ∃ pre old post, c = pre ++ (old ++ post) ∧ c' = pre ++ (vs ++ post) ∧ cw pre = o ∧ cw old = s
  | c, 0, c', h => by
    have h' : (match dropW c s with | some r => some (vs ++ r) | none => none) = some c' := by cases c <;> exact h
    split at h'
    · rename_i r hr
      simp only [Option.some.injEq] at h'; subst h'
      obtain ⟨c0, rfl, h1⟩ := dropW_spec _ _ _ hr
      exact ⟨[], c0, r, rfl, rfl, rfl, h1⟩
    · cases h'
  | [], o + 1, c', h => by simp [putFlat] at h
  | x :: xs, o + 1, c', h => by
    simp only [putFlat] at h
    obtain ⟨hb, h⟩ := cond_some h
    split at h
    · rename_i r hr
      simp only [Option.some.injEq] at h; subst h
      obtain ⟨pre, old, post, rfl, rfl, h1, h2⟩ := putFlat_spec xs _ r hr
      exact ⟨x :: pre, old, post, rfl, rfl, by simp only [cw, h1]; have := Nat.le_of_ble_eq_true hb; omega, h2⟩
    · cases h
theorem updAtK_some {R : Type} {g : AV → (AV → Option R) → Option R} {r : R} : ∀ (c : List AV) (o : Nat) (k : List AV → Option R), updAtK c o g k = some r → ∃ pre x post, c = pre ++ x :: post ∧ cw pre = o ∧ g x (fun y => k (pre ++ y :: post)) = some r
  | [], o, k, h => by simp [updAtK] at h
  | x :: xs, 0, k, h => ⟨[], x, xs, rfl, rfl, h⟩
  | x :: xs, o + 1, k, h => by
    simp only [updAtK] at h
    obtain ⟨hb, h⟩ := cond_some h
    obtain ⟨pre, y, post, rfl, h1, h2⟩ := updAtK_some xs _ _ h
    exact ⟨x :: pre, y, post, rfl, by simp only [cw, h1]; have := Nat.le_of_ble_eq_true hb; omega, h2⟩

theorem putK_ok {R : Type} {r : R} : ∀ (ps : List (Nat × Nat × Nat)) {c : List AV} {o s : Nat} {vs : List AV} {k : List AV → Option R}, putK ps c o s vs k = some r → ∃ c', k c' = some r ∧
    ∀ (κ : Kap) (zs ys : List Value), CRel κ c zs → CRel (if ps = [] then κ else κ.nl) vs ys → cw vs = s → (∀ y ∈ ys, oneV y = true) → CRel κ c' (splice zs (plen ps + o) ys) ∧ plen ps + o + ys.length ≤ zs.length
  | [], c, o, s, vs, k, h => by
    simp only [putK] at h
    split at h
    · rename_i c' hp
      obtain ⟨pre, old, post, rfl, rfl, h1, h2⟩ := putFlat_spec _ _ _ hp
      refine ⟨_, h, fun κ zs ys hc hv hs hone => ?_⟩
      obtain ⟨z1, z', rfl, a1, a2⟩ := hc.split
      obtain ⟨z2, z3, rfl, a3, a4⟩ := a2.split
      rw [if_pos rfl] at hv
      have l1 := a1.length; have l2 := a3.length; have l3 := hv.length
      have := splice_append z1 z2 z3 [] o ys (by omega) (by omega)
      simp only [List.append_nil] at this
      simp only [plen, Nat.zero_add, this]
      exact ⟨a1.append (hv.append a4), by simp; omega⟩
    · cases h
  | (o1, i, w) :: ps, c, o, s, vs, k, h => by
    simp only [putK] at h
    obtain ⟨pre, x, post, rfl, h1, h2⟩ := updAtK_some _ _ _ h
    split at h2
    · rename_i w' n f us
      obtain ⟨hw, h3⟩ := cond_some h2
      obtain ⟨hi, h4⟩ := cond_some h3
      rw [eltK_eq] at h4
      obtain ⟨e, h5, h7⟩ := putK_ok ps h4
      have hi : i < n := by simpa [Nat.blt_eq] using hi
      have hw := Nat.eq_of_beq_eq_true hw
      refine ⟨_, h5, ?_⟩
      · subst hw
        intro κ zs ys hc hv hs hone
        rw [if_neg (by simp)] at hv
        obtain ⟨z1, z', rfl, a1, a2⟩ := hc.split
        cases a2 with
        | arr _ _ _ _ zc b1 bo b2 b3 b4 b5 =>
          rename_i z3
          subst b4
          have hel := b3 i hi
          have hv' : CRel (if ps = [] then κ.nl else κ.nl.nl) vs ys := by
            have : (if ps = [] then κ.nl else κ.nl.nl) = κ.nl := by split <;> rfl
            rw [this]; exact hv
          obtain ⟨g1, g2⟩ := h7 κ.nl _ ys hel hv' hs hone
          have l1 := a1.length
          have hle : i * w + w ≤ n * w := by
            have := Nat.mul_le_mul_right w (Nat.succ_le_of_lt hi)
            rw [Nat.succ_mul] at this; exact this
          have hell : ((zc.drop (i * w)).take w).length = w := by simp; omega
          have hel' : (splice ((zc.drop (i * w)).take w) (plen ps + o) ys).length = w := by rw [splice_length _ _ _ g2]; exact hell
          have e1 := splice_splice (z1 := z1) (zc := zc) (z3 := z3) (n := n) (w := w) (i := i) (off := plen ps + o) (ys := ys) b1 hi (by omega)
          have e2 : plen ((o1, i, w) :: ps) + o = z1.length + (i * w + (plen ps + o)) := by simp only [plen]; omega
          rw [e2, e1]
          refine ⟨a1.append (.arr w n f _ (splice zc (i * w) (splice ((zc.drop (i * w)).take w) (plen ps + o) ys)) (by rw [splice_length _ _ _ (by omega)]; exact b1) (splice_one bo (splice_one (fun z hz => bo z (List.mem_of_mem_drop (List.mem_of_mem_take hz))) hone)) (fun j hj => ?_) (fun j hj => ?_) rfl b5), by simp; omega⟩
          · simp only [elt]
            by_cases hji : j = i
            · subst hji; rw [Nat.beq_refl, cond_true, ← g1.length]; exact hel'
            · rw [beq_false hji, cond_false]; exact b2 j hj
          · rw [splice_elem b1 hel' hi]
            simp only [elt]
            by_cases hji : j = i
            · subst hji; rw [Nat.beq_refl, cond_true, if_pos rfl]; exact g1
            · rw [beq_false hji, cond_false, if_neg hji]; exact b3 j hj
    · cases h2
end
end Go.Sv
namespace Go.Sv
noncomputable section
open Go.RowKit
variable {P : Program}

/-! ### what is handed into a list: no names -/
section
variable {R : Type}
def shed1K (m : List (Nat × Row)) (x : AV) (k : AV → List Nat → Option R) : Option R :=
  match x with
  | .bool _ | .int _ _ | .str _ | .raw _ | .sptr _ _ | .lst _ _ _ _ | .arr _ _ _ _ => k x []
  | .slc n [] o i w len _ => match find m n with
    | some (.cells c _ _) => match dropW c o with
      | some (.arr w' N f us :: _) => bif Nat.beq w w' then bif Nat.ble (add0 i len) N then
          (bif Nat.beq i 0 then k (.lst w f len us) [n] else k (.lst w (fun j => elt us f (i + j)) len []) [n]) else none else none
      | _ => none
    | _ => none
  | _ => none
def shedK (m : List (Nat × Row)) : List AV → (List AV → List Nat → Option R) → Option R
  | [], k => k [] []
  | x :: xs, k => shed1K m x fun y ns => shedK m xs fun ys ns' => k (y :: ys) (ns ++ ns')
end
/-- The rows that stay from now on. -/
def frz (m : List (Nat × Row)) : List Nat → List (Nat × Option Row)
  | [] => []
  | n :: ns => match find m n with
    | some (.cells c _ tip) => (n, some (.cells c false tip)) :: frz m ns
    | _ => frz m ns

theorem MRel.freezeAll {κ : Kap} {w : World} {m : List (Nat × Row)} : ∀ (ns : List Nat) {M : Mem}, MRel κ M w → (∀ n ∈ ns, (∀ c o t, find m n = some (.cells c o t) → M n = some (.cells c o t) ∨ M n = some (.cells c false t))) →
    ∃ κ', κ.le κ' ∧ κ'.loc = κ.loc ∧ MRel κ' (M.sets (frz m ns)) w ∧ Fr κ M w κ' (M.sets (frz m ns)) w ∧ (∀ n, n ∉ ns → M.sets (frz m ns) n = M n) ∧
      (∀ n ∈ ns, ∀ c o t, find m n = some (.cells c o t) → M.sets (frz m ns) n = some (.cells c false t))
  | [], M, h, _ => ⟨κ, Kap.le_refl κ, rfl, h, Fr.refl κ M w, fun _ _ => rfl, fun n hn => by cases hn⟩
  | n :: ns, M, h, hM => by
    cases hf : find m n with
    | none =>
      obtain ⟨κ', a1, a2, a3, a4, a5, a6⟩ := MRel.freezeAll ns h fun n' hn' => hM n' (List.mem_cons_of_mem _ hn')
      have e : frz m (n :: ns) = frz m ns := by simp only [frz, hf]
      rw [e]
      exact ⟨κ', a1, a2, a3, a4, fun n' hn' => a5 n' fun h => hn' (List.mem_cons_of_mem _ h), fun n' hn' c o t h => by
        rcases List.mem_cons.1 hn' with rfl | hn'
        · rw [hf] at h; cases h
        · exact a6 n' hn' c o t h⟩
    | some r =>
      cases r with
      | map a b d =>
        obtain ⟨κ', a1, a2, a3, a4, a5, a6⟩ := MRel.freezeAll ns h fun n' hn' => hM n' (List.mem_cons_of_mem _ hn')
        have e : frz m (n :: ns) = frz m ns := by simp only [frz, hf]
        rw [e]
        exact ⟨κ', a1, a2, a3, a4, fun n' hn' => a5 n' fun h => hn' (List.mem_cons_of_mem _ h), fun n' hn' c o t h => by
          rcases List.mem_cons.1 hn' with rfl | hn'
          · rw [hf] at h; cases h
          · exact a6 n' hn' c o t h⟩
      | ptab xs =>
        obtain ⟨κ', a1, a2, a3, a4, a5, a6⟩ := MRel.freezeAll ns h fun n' hn' => hM n' (List.mem_cons_of_mem _ hn')
        have e : frz m (n :: ns) = frz m ns := by simp only [frz, hf]
        rw [e]
        exact ⟨κ', a1, a2, a3, a4, fun n' hn' => a5 n' fun h => hn' (List.mem_cons_of_mem _ h), fun n' hn' c o t h => by
          rcases List.mem_cons.1 hn' with rfl | hn'
          · rw [hf] at h; cases h
          · exact a6 n' hn' c o t h⟩
      | cells c o t =>
        have e : frz m (n :: ns) = (n, some (.cells c false t)) :: frz m ns := by simp only [frz, hf]
        have hstep : ∃ κ1, κ.le κ1 ∧ κ1.loc = κ.loc ∧ MRel κ1 (M.set n (some (.cells c false t))) w ∧ Fr κ M w κ1 (M.set n (some (.cells c false t))) w := by
          have hsame : M n = some (.cells c false t) → ∃ κ1, κ.le κ1 ∧ κ1.loc = κ.loc ∧ MRel κ1 (M.set n (some (.cells c false t))) w ∧ Fr κ M w κ1 (M.set n (some (.cells c false t))) w := fun hs => by
            have : M.set n (some (.cells c false t)) = M := funext fun x => by
              by_cases e : x = n
              · subst e; rw [Mem.set_same, hs]
              · rw [Mem.set_ne _ _ e]
            rw [this]; exact ⟨κ, Kap.le_refl κ, rfl, h, Fr.refl κ M w⟩
          rcases hM n (List.mem_cons_self ..) c o t hf with h1 | h1
          · cases o with
            | true => exact h.freeze h1
            | false => exact hsame h1
          · exact hsame h1
        obtain ⟨κ1, b1, b2, b3, b4⟩ := hstep
        obtain ⟨κ', a1, a2, a3, a4, a5, a6⟩ := MRel.freezeAll (m := m) ns b3 fun n' hn' c' o' t' hf' => by
          by_cases e : n' = n
          · subst e; rw [hf] at hf'; cases hf'; rw [Mem.set_same]; exact .inr rfl
          · rw [Mem.set_ne _ _ e]; exact hM n' (List.mem_cons_of_mem _ hn') c' o' t' hf'
        rw [e]
        refine ⟨κ', Kap.le_trans b1 a1, a2.trans b2, a3, b4.trans a4, fun n' hn' => ?_, fun n' hn' c' o' t' hf' => ?_⟩
        · show (M.set n _).sets (frz m ns) n' = M n'
          rw [a5 n' fun h => hn' (List.mem_cons_of_mem _ h), Mem.set_ne _ _ fun e => hn' (by rw [e]; exact List.mem_cons_self ..)]
        · show (M.set n _).sets (frz m ns) n' = _
          by_cases hin : n' ∈ ns
          · exact a6 n' hin c' o' t' hf'
          · rcases List.mem_cons.1 hn' with rfl | hn'
            · rw [hf] at hf'; cases hf'
              rw [a5 n' hin, Mem.set_same]
            · exact absurd hn' hin

theorem shed1K_ok {R : Type} {m : List (Nat × Row)} {x : AV} {k : AV → List Nat → Option R} {r : R} (h : shed1K m x k = some r) :
    ∃ y ns, k y ns = some r ∧ width y = width x ∧ (∀ n ∈ ns, ∃ c o t, find m n = some (.cells c o t)) ∧
      ∀ (κ : Kap) (w : World) (M : Mem), MRel κ M w → (∀ n ∈ ns, ∀ c o t, find m n = some (.cells c o t) → M n = some (.cells c false t)) → ∀ ys, CRel κ [x] ys → CRel κ.nl [y] ys := by
  have simple : (k x [] = some r) → (∀ κ ys, CRel κ [x] ys → CRel κ.nl [x] ys) → ∃ y ns, k y ns = some r ∧ width y = width x ∧ (∀ n ∈ ns, ∃ c o t, find m n = some (.cells c o t)) ∧
      ∀ (κ : Kap) (w : World) (M : Mem), MRel κ M w → (∀ n ∈ ns, ∀ c o t, find m n = some (.cells c o t) → M n = some (.cells c false t)) → ∀ ys, CRel κ [x] ys → CRel κ.nl [y] ys :=
    fun hk hx => ⟨x, [], hk, rfl, (fun n hn => by cases hn), fun κ w M _ _ ys hy => hx κ ys hy⟩
  unfold shed1K at h
  split at h
  · exact simple h fun κ ys hy => by cases hy with | bool _ hn => cases hn; exact .bool _ .nil
  · exact simple h fun κ ys hy => by cases hy with | int _ _ hn => cases hn; exact .int _ _ .nil
  · exact simple h fun κ ys hy => by cases hy with | str _ hn => cases hn; exact .str _ .nil
  · exact simple h fun κ ys hy => by cases hy with | raw _ hn => cases hn; exact .raw _ .nil
  · exact simple h fun κ ys hy => by cases hy with | sptr _ cs zs b off p _ h1 h2 h3 h4 hn => cases hn; exact .sptr _ cs zs b off p _ h1 h2 h3 h4 .nil
  · exact simple h fun κ ys hy => by
      cases hy with
      | lst _ _ b off cap _ _ cs h1 h2 h3 ho h4 h5 hn => cases hn; exact .lst _ _ b off cap _ _ cs h1 h2 h3 ho h4 h5 .nil
      | lst0 _ cap _ _ a hn => cases hn; exact .lst0 _ cap _ _ a .nil
  · exact simple h fun κ ys hy => by cases hy with | arr _ _ _ _ zs h1 ho h2 h3 h4 hn => cases hn; exact .arr _ _ _ _ zs h1 ho h2 h3 h4 .nil
  · rename_i n o i w len cap
    split at h
    · rename_i c own tip hf
      split at h
      · rename_i w' N f us rest hd
        obtain ⟨hw, g1⟩ := cond_some h; clear h
        obtain ⟨hb, h⟩ := cond_some g1; clear g1
        have hw := Nat.eq_of_beq_eq_true hw
        subst hw
        have hb := Nat.le_of_ble_eq_true hb
        rw [add0_eq] at hb
        have key : ∀ (g : Nat → List AV) (us' : List (Nat × List AV)), (∀ j, elt us' g j = elt us f (i + j)) →
            ∀ (κ : Kap) (w0 : World) (M : Mem), MRel κ M w0 → (∀ n' ∈ [n], ∀ c o t, find m n' = some (.cells c o t) → M n' = some (.cells c false t)) → ∀ ys, CRel κ [.slc n [] o i w len cap] ys → CRel κ.nl [.lst w g len us'] ys := by
          intro g us' hg κ w0 M hR hM ys hy
          have hrow := hM n (List.mem_singleton.2 rfl) c own tip hf
          cases hy with
          | slc _ _ _ _ _ _ _ b cap' a h1 h2 h3 h4 hn =>
            cases hn
            by_cases hl : len = 0
            · subst hl; exact .lst0 w cap' g us' _ .nil
            · obtain ⟨ha, s, hs1, hs2⟩ := h2.resolve_left (by omega)
              subst ha
              rcases hR.row n _ hrow with ⟨g1, _⟩ | ⟨b', zs, rst, e, fr, g1, g2, g3, g4, g5, g6, g7⟩
              · rw [h1] at g1; cases g1
              · rw [h1] at g1; cases g1
                obtain ⟨a1, a2⟩ := g3.dropW hd
                obtain ⟨c1, c2, c3, c4⟩ := a1.arr_inv
                have hst : κ.nl.st b = some zs := (g6 rfl)
                simp only [List.length_drop] at c1
                have hle : (i + len) * w ≤ N * w := Nat.mul_le_mul_right w hb
                rw [Nat.add_mul] at hle
                have hoff : plen [] + o + i * w = o + i * w := by simp [plen]
                rw [hoff]
                refine .lst w len b (o + i * w) cap' g us' zs hst (by omega) h4 (fun z hz => ?_) (fun j hj => ?_) (fun j hj => ?_) .nil
                · have hone := a1.arr_one
                  refine hone z ?_
                  have e1 : (zs.drop (o + i * w)).take (len * w) = ((((zs.drop o).take (N * w)).drop (i * w)).take (len * w)) := by
                    rw [List.drop_take, List.take_take, List.drop_drop, Nat.min_eq_left (by omega)]
                  rw [e1] at hz
                  exact List.mem_of_mem_drop (List.mem_of_mem_take hz)
                · rw [hg]; exact c2 _ (by omega)
                · rw [hg]
                  have := c3 (i + j) (by omega)
                  rw [List.drop_drop, Nat.add_mul] at this
                  rw [show o + i * w + j * w = o + (i * w + j * w) from by omega]
                  exact this
          | slc0 _ _ _ _ _ h1 hn => cases hn; exact .lst0 w 0 g us' _ .nil
        cases hi : Nat.beq i 0 <;> rw [hi] at h
        · exact ⟨_, _, h, rfl, fun n' hn' => by rw [List.mem_singleton.1 hn']; exact ⟨c, own, tip, hf⟩, key _ [] fun j => rfl⟩
        · have := Nat.eq_of_beq_eq_true hi
          subst this
          exact ⟨_, _, h, rfl, fun n' hn' => by rw [List.mem_singleton.1 hn']; exact ⟨c, own, tip, hf⟩, key f us fun j => by rw [Nat.zero_add]⟩
      · cases h
    · cases h
  · cases h

theorem shedK_ok {R : Type} {m : List (Nat × Row)} {r : R} : ∀ (xs : List AV) {k : List AV → List Nat → Option R}, shedK m xs k = some r →
    ∃ ys ns, k ys ns = some r ∧ cw ys = cw xs ∧ (∀ n ∈ ns, ∃ c o t, find m n = some (.cells c o t)) ∧
      ∀ (κ : Kap) (w : World) (M : Mem), MRel κ M w → (∀ n ∈ ns, ∀ c o t, find m n = some (.cells c o t) → M n = some (.cells c false t)) → ∀ zs, CRel κ xs zs → CRel κ.nl ys zs
  | [], k, h => ⟨[], [], h, rfl, (fun n hn => by cases hn), fun κ w M _ _ zs hz => by cases hz; exact .nil⟩
  | x :: xs, k, h => by
    simp only [shedK] at h
    obtain ⟨y, ns, h1, h2, h3, h4⟩ := shed1K_ok h
    obtain ⟨ys, ns', g1, g2, g3, g4⟩ := shedK_ok xs h1
    refine ⟨_, _, g1, by simp [cw, h2, g2], fun n hn => ?_, fun κ w M hR hM zs hz => ?_⟩
    · rcases List.mem_append.1 hn with h | h
      · exact h3 n h
      · exact g3 n h
    · obtain ⟨z1, z2, rfl, a1, a2⟩ := hz.cons_inv
      have b1 := h4 κ w M hR (fun n hn => hM n (List.mem_append_left _ hn)) z1 a1
      have b2 := g4 κ w M hR (fun n hn => hM n (List.mem_append_right _ hn)) z2 a2
      simpa using b1.append b2

def memB : List Nat → Nat → Bool
  | [], _ => false
  | x :: xs, n => bif Nat.beq x n then true else memB xs n
theorem memB_false : ∀ {l : List Nat} {n : Nat}, memB l n = false → n ∉ l
  | [], _, _ => by simp
  | x :: xs, n, h => by
    simp only [memB] at h
    cases hb : Nat.beq x n <;> rw [hb] at h
    · intro hn
      rcases List.mem_cons.1 hn with rfl | hn
      · rw [Nat.beq_refl] at hb; cases hb
      · exact memB_false h hn
    · cases h

/-! ### stores -/
/-- No cell of what is stored is a struct, or of several values. -/
def flatC : List AV → Bool
  | [] => true
  | x :: xs => (match x with | .arr _ _ _ _ => true | x => one x) && flatC xs
theorem flatC_one {κ : Kap} : ∀ {c : List AV} {zs : List Value}, flatC c = true → CRel κ c zs → ∀ z ∈ zs, oneV z = true
  | [], zs, _, r => by cases r; intro z hz; cases hz
  | x :: xs, zs, h, r => by
    simp only [flatC, Bool.and_eq_true] at h
    obtain ⟨h1, h2⟩ := h
    by_cases hx : isArr x = true
    · cases x <;> first | (simp [isArr] at hx; done) | skip
      cases r with
      | arr _ _ _ _ zs h1 ho h2' h3 h4 h5 =>
        subst h4
        intro z hz
        rcases List.mem_append.1 hz with h | h
        · exact ho z h
        · exact flatC_one h2 h5 z h
    · have hx' : isArr x = false := by simpa using hx
      obtain ⟨y, ys, rfl, h3, h4⟩ := r.head hx'
      have ho : one x = true := by cases x <;> first | exact h1 | (simp [isArr] at hx'; done)
      intro z hz
      rcases List.mem_cons.1 hz with rfl | hz
      · exact oneV_of h3 ho
      · exact flatC_one h2 h4 z hz
section
variable {R : Type} (P)
def storeE (t : TypeId) (x y : Operand) (E : Env) (m : List (Nat × Row)) (k : Ent → Option R) : Option R :=
  match aeval E x with
  | some (.ptr n ps o) => match aeval E y with
    | some v => match qrun P (sizeOf t) with
      | some s => match find m n with
        | some (.cells c true tip) => bif celled v && (flatC (cells v) && Nat.beq (cw (cells v)) s) then
            match ps with
            | [] => putK [] c o s (cells v) fun c' => k ⟨.raw undef, [(n, some (.cells c' true tip))], 0, [n]⟩
            | p :: ps => shedK m (cells v) fun vs ns => bif memB ns n then none else putK (p :: ps) c o s vs fun c' => k ⟨.raw undef, frz m ns ++ [(n, some (.cells c' true tip))], 0, n :: ns⟩
          else none
        | _ => none
      | none => none
    | none => none
  | _ => none
end
theorem Mem.sets_append (M : Mem) : ∀ (a b : List (Nat × Option Row)), M.sets (a ++ b) = (M.sets a).sets b
  | [], b => rfl
  | (n, r) :: a, b => by simp only [List.cons_append, Mem.sets]; exact Mem.sets_append _ a b

theorem storeRun {o : Oper} {t : TypeId} {x y : Operand} (ho : o.op = .store t x y) {a : Act} {w : World} {b off s : Nat} {e : TypeId} {c : Array Value} (hx : a.eval x = .pointer (some ⟨b, off, none⟩)) (hs : qrun P (sizeOf t) = some s)
    {fr : Nat × Nat} (hb : w.heap[b]? = some (.cells c e fr)) (hf : Thaw fr c.size) (hlen : (a.eval y).cells.size = s) (hfit : off + s ≤ c.size) (hone : ∀ v ∈ (a.eval y).cells.toList, oneV v = true) :
    (execOp a.eval o).run P w = .ok .skip (World.putBlk w b (.cells (splice c.toList off (a.eval y).cells.toList).toArray e fr)) := by
  simp only [execOp, ho]
  refine run_skip ?_
  simp only [Instr.storeAt, hx, Instr.sureAddr]
  refine (run_bind_ok (a := ⟨b, off, none⟩) (w' := w) rfl).trans ?_
  unfold storeVar
  refine (run_q hs).trans ?_
  simp only [hlen, ne_eq, not_true_eq_false, if_false]
  have := run_storeCells (P := P) off (a.eval y).cells.toList 0 c w hb hf (by simp [hlen]; omega) hone
  simpa using this

theorem storeE_ok {R : Type} {o : Oper} {t : TypeId} {x y : Operand} (ho : o.op = .store t x y) {E : Env} {m : List (Nat × Row)} {k : Ent → Option R} {r : R} (h : storeE P t x y E m k = some r) {next : Nat} :
    ∃ e, k e = some r ∧ OpOk P o E next (find m) e := by
  have hmx : x ∈ o.op.operands := by rw [ho]; simp [Op.operands]
  have hmy : y ∈ o.op.operands := by rw [ho]; simp [Op.operands]
  unfold storeE at h
  split at h
  · rename_i n ps off hx
    split at h
    · rename_i v hy
      split at h
      · rename_i s hs
        split at h
        · rename_i c tip hf
          obtain ⟨hb, h⟩ := cond_some h
          simp only [Bool.and_eq_true] at hb
          obtain ⟨hcel, hflat, hsz⟩ := hb
          have hsz := Nat.eq_of_beq_eq_true hsz
          split at h
          · obtain ⟨c', h1, h2⟩ := putK_ok _ h
            refine ⟨_, h1, fun κ a w M K Q hA hR hrd _ hK => ?_⟩
            have hp := hA x hmx _ hx
            have hv := hA y hmy _ hy
            have hM : M n = some (.cells c true tip) := by rw [hrd n (List.mem_singleton.2 rfl)]; exact hf
            generalize hea : a.eval x = ev at hp
            cases hp with
            | ptr _ p _ b _ h3 h4 _ =>
              rcases hR.row n _ hM with ⟨g1, _⟩ | ⟨b', zs, rest, e, fr, g1, g2, g3, g4, g5, g6, g7⟩
              · rw [h3] at g1; cases g1
              · rw [h3] at g1; cases g1
                obtain ⟨hfr, hst⟩ := g5 rfl
                have hc := cells_rel hv hcel
                have hone := flatC_one hflat hc
                have hl := hc.length
                rw [hsz] at hl
                obtain ⟨q1, q2⟩ := h2 κ zs _ g3 (by rw [if_pos rfl]; exact hc) hsz hone
                have hrun := storeRun (P := P) ho hea hs g2 (hfr.len (by simp)) (by simpa using hl) (by simp only [plen] at q2 h4; simp; omega) hone
                refine wp_skip' hrun ?_
                have e1 : splice (zs ++ rest).toArray.toList p (a.eval y).cells.toList = splice zs p (a.eval y).cells.toList ++ rest := by
                  have hp' : p + (a.eval y).cells.toList.length ≤ zs.length := by rw [h4]; exact q2
                  unfold splice
                  simp only [List.take_append_of_le_length (show p ≤ zs.length by omega), List.drop_append_of_le_length hp', List.append_assoc]
                rw [e1]
                have hrow : RowRel κ (World.putBlk w b (.cells (splice zs p (a.eval y).cells.toList ++ rest).toArray e fr)) n (.cells c' true tip) :=
                  .inr ⟨b, _, rest, e, fr, h3, putBlk_same g2, by rw [h4]; exact q1, g4, fun _ => ⟨hfr.len (by simp [splice_length _ _ _ (show p + (a.eval y).cells.toList.length ≤ zs.length by rw [h4]; exact q2)]), hst⟩, (fun h => by cases h), by rw [g7]; simp [splice_length _ _ _ (show p + (a.eval y).cells.toList.length ≤ zs.length by rw [h4]; exact q2)]⟩
                obtain ⟨k1, k2⟩ := hR.put hM rfl h3 hrow
                exact hK κ undef _ (Kap.le_refl κ) (fun _ _ => rfl) (.raw undef .nil) k1 k2
          · rename_i p0 ps0
            obtain ⟨vs, ns, h1, h2, h3, h4⟩ := shedK_ok _ h
            obtain ⟨hmem, h5⟩ := cond_some' h1
            obtain ⟨c', h6, h7⟩ := putK_ok _ h5
            refine ⟨_, h6, fun κ a w M K Q hA hR hrd _ hK => ?_⟩
            have hp := hA x hmx _ hx
            have hv := hA y hmy _ hy
            have hM : M n = some (.cells c true tip) := by rw [hrd n (List.mem_cons_self ..)]; exact hf
            obtain ⟨κ', a1, a2, a3, a4, a5, a6⟩ := MRel.freezeAll (m := m) ns hR fun n' hn' c0 o0 t0 h0 => .inl (by rw [hrd n' (List.mem_cons_of_mem _ hn')]; exact h0)
            have hM' : (M.sets (frz m ns)) n = some (.cells c true tip) := by rw [a5 n (memB_false hmem)]; exact hM
            have hv' := hv.mono a1
            generalize hea : a.eval x = ev at hp
            cases hp with
            | ptr _ p _ b _ g0 g00 _ =>
              have hloc : κ'.loc n = some (some b) := by rw [a2]; exact g0
              rcases a3.row n _ hM' with ⟨g1, _⟩ | ⟨b', zs, rest, e, fr, g1, g2, g3, g4, g5, g6, g7⟩
              · rw [hloc] at g1; cases g1
              · rw [hloc] at g1; cases g1
                obtain ⟨hfr, hst⟩ := g5 rfl
                have hc := cells_rel hv' hcel
                have hone := flatC_one hflat hc
                have hl := hc.length
                rw [hsz] at hl
                have hcn := h4 κ' w _ a3 (fun n' hn' c0 o0 t0 h0 => a6 n' hn' c0 o0 t0 h0) _ hc
                obtain ⟨q1, q2⟩ := h7 κ' zs _ g3 (by rw [if_neg (by simp)]; exact hcn) (by rw [h2, hsz]) hone
                have hrun := storeRun (P := P) ho hea hs g2 (hfr.len (by simp)) (by simpa using hl) (by simp; omega) hone
                refine wp_skip' hrun ?_
                have hp' : p + (a.eval y).cells.toList.length ≤ zs.length := by rw [g00]; exact q2
                have e1 : splice (zs ++ rest).toArray.toList p (a.eval y).cells.toList = splice zs p (a.eval y).cells.toList ++ rest := by
                  unfold splice
                  simp only [List.take_append_of_le_length (show p ≤ zs.length by omega), List.drop_append_of_le_length hp', List.append_assoc]
                rw [e1]
                have hrow : RowRel κ' (World.putBlk w b (.cells (splice zs p (a.eval y).cells.toList ++ rest).toArray e fr)) n (.cells c' true tip) :=
                  .inr ⟨b, _, rest, e, fr, hloc, putBlk_same g2, by rw [g00]; exact q1, g4, fun _ => ⟨hfr.len (by simp [splice_length _ _ _ hp']), hst⟩, (fun h => by cases h), by rw [g7]; simp [splice_length _ _ _ hp']⟩
                obtain ⟨k1, k2⟩ := a3.put hM' rfl hloc hrow
                refine hK κ' undef _ a1 (fun n _ => by rw [a2]) (.raw undef .nil) ?_ ?_
                · show MRel κ' (M.sets (frz m ns ++ [(n, some (.cells c' true tip))])) _
                  rw [Mem.sets_append]; exact k1
                · show Fr κ M w κ' (M.sets (frz m ns ++ [(n, some (.cells c' true tip))])) _
                  rw [Mem.sets_append]; exact a4.trans k2
        · cases h
      · cases h
    · cases h
  · cases h
end
end Go.Sv
