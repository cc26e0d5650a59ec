/- A second evaluator for the model's code: its values, what they are in a world, and the plain laws of both. -/
import Derived.Calls
import Derived.Orders
import Derived.LoopN
import Derived.Scope
import Derived.Below
import Derived.KernelRfl
namespace Go.Sv
open Go.RowKit

/-! ### values -/
/-- A value of the evaluator. 'arr w n f' stands, in a list of cells, for n elements of w cells each. -/
inductive AV where
  | any
  | bool (b : Bool)
  | int (k : IntKind) (n : Int)
  | str (s : List UInt8)
  | raw (v : Value)
  | ptr (n : Nat) (p : List (Nat × Nat × Nat)) (o : Nat)
  | sptr (c : List AV) (o : Nat)
  | slc (n : Nat) (p : List (Nat × Nat × Nat)) (o i w len cap : Nat)
  | lst (w : Nat) (f : Nat → List AV) (len : Nat) (us : List (Nat × List AV))
  | agg (c : List AV)
  | tup (c : List AV)
  | ifc (t : TypeId) (x : AV)
  | fn (f : FuncId) (a b : List AV)
  | mp (n : Nat)
  | arr (w n : Nat) (f : Nat → List AV) (us : List (Nat × List AV))
  | gh (g : Nat)

/-- An element: of those that were set, the newest one, else as it was at first. -/
def elt : List (Nat × List AV) → (Nat → List AV) → Nat → List AV
  | [], f, i => f i
  | (j, c) :: us, f, i => bif Nat.beq i j then c else elt us f i

/-- How many cells it stands for. -/
def width : AV → Nat
  | .arr w n _ _ => n * w
  | _ => 1
def cw : List AV → Nat
  | [] => 0
  | x :: xs => width x + cw xs
theorem cw_append : ∀ (a b : List AV), cw (a ++ b) = cw a + cw b
  | [], b => by simp [cw]
  | x :: a, b => by simp [cw, cw_append a b, Nat.add_assoc]

/-- How far a place lies behind its row's beginning. -/
def plen : List (Nat × Nat × Nat) → Nat
  | [] => 0
  | (o, i, w) :: p => o + i * w + plen p
theorem plen_append : ∀ (a b : List (Nat × Nat × Nat)), plen (a ++ b) = plen a + plen b
  | [], b => by simp [plen]
  | (o, i, w) :: a, b => by simp [plen, plen_append a b, Nat.add_assoc]

/-- Values that bear no address and are one cell. -/
def rawOk : Value → Bool
  | .float _ _ | .complex _ _ _ | .nilFunc | .nilIface => true
  | .pointer none | .slice none _ _ | .map none | .chan none => true
  | _ => false

/-! ### what they are in a world -/
/-- Where rows lie ('some none': a slice that may be nil, without cells), blocks that stay, the values of ghosts, how many cells blocks have. -/
structure Kap where
  loc : Nat → Option (Option Nat)
  st : Nat → Option (List Value)
  gh : Nat → Value
  sz : Nat → Option Nat
structure Kap.le (κ κ' : Kap) : Prop where
  loc : ∀ n x, κ.loc n = some x → κ'.loc n = some x
  st : ∀ b cs, κ.st b = some cs → κ'.st b = some cs
  gh : κ'.gh = κ.gh
  sz : ∀ b s, κ.sz b = some s → κ'.sz b = some s
theorem Kap.le_refl (κ : Kap) : κ.le κ := ⟨fun _ _ h => h, fun _ _ h => h, rfl, fun _ _ h => h⟩
theorem Kap.le_trans {a b c : Kap} (h : a.le b) (k : b.le c) : a.le c :=
  ⟨fun n x e => k.loc n x (h.loc n x e), fun n x e => k.st n x (h.st n x e), k.gh.trans h.gh, fun n x e => k.sz n x (h.sz n x e)⟩

/-- Values that are one cell. -/
def oneV : Value → Bool
  | .agg _ | .tuple _ => false
  | _ => true

/-- No names of rows: what lies in lists that stay, and in arrays, bears none. -/
def Kap.nl (κ : Kap) : Kap := ⟨fun _ => none, κ.st, κ.gh, κ.sz⟩
theorem Kap.le.nl {κ κ' : Kap} (h : κ.le κ') : κ.nl.le κ'.nl := ⟨fun n x e => by simp [Kap.nl] at e, h.st, h.gh, h.sz⟩
theorem Kap.nl_le (κ : Kap) : κ.nl.le κ := ⟨fun n x e => by simp [Kap.nl] at e, fun _ _ h => h, rfl, fun _ _ h => h⟩
theorem Kap.nl_nl (κ : Kap) : κ.nl.nl = κ.nl := rfl

inductive CRel : Kap → List AV → List Value → Prop where
  | nil {κ} : CRel κ [] []
  | any {κ xs ys} (y : Value) : CRel κ xs ys → CRel κ (.any :: xs) (y :: ys)
  | bool {κ xs ys} (b : Bool) : CRel κ xs ys → CRel κ (.bool b :: xs) (.bool b :: ys)
  | int {κ xs ys} (k : IntKind) (n : Int) : CRel κ xs ys → CRel κ (.int k n :: xs) (.int k n :: ys)
  | str {κ xs ys} (s : List UInt8) : CRel κ xs ys → CRel κ (.str s :: xs) (.string ⟨s.toArray⟩ :: ys)
  | raw {κ xs ys} (v : Value) : CRel κ xs ys → CRel κ (.raw v :: xs) (v :: ys)
  | ptr {κ xs ys} (n p o b : Nat) (ps : List (Nat × Nat × Nat)) : κ.loc n = some (some b) → p = plen ps + o → CRel κ xs ys → CRel κ (.ptr n ps o :: xs) (.pointer (some ⟨b, p, none⟩) :: ys)
  | sptr {κ xs ys} (c : List AV) (cs zs : List Value) (b off p o : Nat) : κ.st b = some cs → zs = (cs.drop off).take (cw c) → CRel κ.nl c zs → p = off + o → CRel κ xs ys → CRel κ (.sptr c o :: xs) (.pointer (some ⟨b, p, none⟩) :: ys)
  | slc {κ xs ys} (n : Nat) (ps : List (Nat × Nat × Nat)) (o i w len cap b cap' : Nat) (a : Addr) : κ.loc n = some (some b) → (cap' = 0 ∨ (a = ⟨b, plen ps + o + i * w, none⟩ ∧ ∃ s, κ.sz b = some s ∧ plen ps + o + i * w + cap' * w ≤ s)) → cap ≤ cap' → len ≤ cap' → CRel κ xs ys →
      CRel κ (.slc n ps o i w len cap :: xs) (.slice (some a) len cap' :: ys)
  | slc0 {κ xs ys} (n o i w : Nat) (ps : List (Nat × Nat × Nat)) : κ.loc n = some none → CRel κ xs ys → CRel κ (.slc n ps o i w 0 0 :: xs) (.slice none 0 0 :: ys)
  | lst {κ xs ys} (w len b off cap : Nat) (f : Nat → List AV) (us : List (Nat × List AV)) (cs : List Value) : κ.st b = some cs → off + len * w ≤ cs.length → len ≤ cap → (∀ z ∈ (cs.drop off).take (len * w), oneV z = true) → (∀ i, i < len → cw (elt us f i) = w) →
      (∀ i, i < len → CRel κ.nl (elt us f i) ((cs.drop (off + i * w)).take w)) → CRel κ xs ys → CRel κ (.lst w f len us :: xs) (.slice (some ⟨b, off, none⟩) len cap :: ys)
  | lst0 {κ xs ys} (w cap : Nat) (f : Nat → List AV) (us : List (Nat × List AV)) (a : Option Addr) : CRel κ xs ys → CRel κ (.lst w f 0 us :: xs) (.slice a 0 cap :: ys)
  | agg {κ xs ys} (c : List AV) (zs : List Value) : CRel κ c zs → CRel κ xs ys → CRel κ (.agg c :: xs) (.agg ⟨zs⟩ :: ys)
  | tup {κ xs ys} (c : List AV) (zs : List Value) : CRel κ c zs → CRel κ xs ys → CRel κ (.tup c :: xs) (.tuple ⟨zs⟩ :: ys)
  | ifc {κ xs ys} (t : TypeId) (x : AV) (y : Value) : CRel κ [x] [y] → CRel κ xs ys → CRel κ (.ifc t x :: xs) (.iface t y :: ys)
  | fn {κ xs ys} (f : FuncId) (a b : List AV) (as bs : List Value) : CRel κ a as → CRel κ b bs → CRel κ xs ys → CRel κ (.fn f a b :: xs) (.func (.func f) ⟨as⟩ ⟨bs⟩ :: ys)
  | mp {κ xs ys} (n b : Nat) : κ.loc n = some (some b) → CRel κ xs ys → CRel κ (.mp n :: xs) (.map (some b) :: ys)
  | arr {κ xs ys vs} (w n : Nat) (f : Nat → List AV) (us : List (Nat × List AV)) (zs : List Value) : zs.length = n * w → (∀ z ∈ zs, oneV z = true) → (∀ i, i < n → cw (elt us f i) = w) → (∀ i, i < n → CRel κ.nl (elt us f i) ((zs.drop (i * w)).take w)) →
      vs = zs ++ ys → CRel κ xs ys → CRel κ (.arr w n f us :: xs) vs
  | gh {κ xs ys} (g : Nat) (y : Value) : y = κ.gh g → CRel κ xs ys → CRel κ (.gh g :: xs) (y :: ys)

abbrev VRel (κ : Kap) (x : AV) (y : Value) : Prop := CRel κ [x] [y]

theorem CRel.mono {κ κ' : Kap} (h : κ.le κ') {xs : List AV} {ys : List Value} (r : CRel κ xs ys) : CRel κ' xs ys := by
  induction r generalizing κ' with
  | nil => exact .nil
  | any y _ ih => exact .any y (ih h)
  | bool b _ ih => exact .bool b (ih h)
  | int k n _ ih => exact .int k n (ih h)
  | str s _ ih => exact .str s (ih h)
  | raw v _ ih => exact .raw v (ih h)
  | ptr n p o b ps h1 h2 _ ih => exact .ptr n p o b ps (h.loc _ _ h1) h2 (ih h)
  | sptr c cs zs b off p o h1 h2 _ h4 _ ih1 ih2 => exact .sptr c cs zs b off p o (h.st _ _ h1) h2 (ih1 h.nl) h4 (ih2 h)
  | slc n ps o i w len cap b cap' a h1 h2 h3 h4 _ ih => exact .slc n ps o i w len cap b cap' a (h.loc _ _ h1) (h2.imp id fun ⟨e, s, a, c⟩ => ⟨e, s, h.sz _ _ a, c⟩) h3 h4 (ih h)
  | slc0 n o i w ps h1 _ ih => exact .slc0 n o i w ps (h.loc _ _ h1) (ih h)
  | lst w len b off cap f us' cs h1 h2 h3 ho h4 _ _ ih1 ih2 => exact .lst w len b off cap f us' cs (h.st _ _ h1) h2 h3 ho h4 (fun i hi => ih1 i hi h.nl) (ih2 h)
  | lst0 w cap f us' a _ ih => exact .lst0 w cap f us' a (ih h)
  | agg c zs _ _ ih1 ih2 => exact .agg c zs (ih1 h) (ih2 h)
  | tup c zs _ _ ih1 ih2 => exact .tup c zs (ih1 h) (ih2 h)
  | ifc t x y _ _ ih1 ih2 => exact .ifc t x y (ih1 h) (ih2 h)
  | fn f a b as bs _ _ _ ih1 ih2 ih3 => exact .fn f a b as bs (ih1 h) (ih2 h) (ih3 h)
  | mp n b h1 _ ih => exact .mp n b (h.loc _ _ h1) (ih h)
  | arr w n f us' zs h1 ho h2 _ h4 _ ih1 ih2 => exact .arr w n f us' zs h1 ho h2 (fun i hi => ih1 i hi h.nl) h4 (ih2 h)
  | gh g y h1 _ ih => exact .gh g y (by rw [h1, h.gh]) (ih h)

theorem CRel.length {κ : Kap} {xs : List AV} {ys : List Value} (r : CRel κ xs ys) : ys.length = cw xs := by
  induction r with
  | nil => rfl
  | arr w n f us' zs h1 ho h2 _ h4 _ ih1 ih2 => subst h4; simp [cw, width, h1, ih2]
  | agg c zs _ _ ih1 ih2 => simp [cw, width, ih2, Nat.add_comm]
  | tup c zs _ _ ih1 ih2 => simp [cw, width, ih2, Nat.add_comm]
  | ifc t x y _ _ ih1 ih2 => simp [cw, width, ih2, Nat.add_comm]
  | fn f a b as bs _ _ _ ih1 ih2 ih3 => simp [cw, width, ih3, Nat.add_comm]
  | sptr c cs zs b off p o h1 h2 _ h4 _ ih1 ih2 => simp [cw, width, ih2, Nat.add_comm]
  | lst w len b off cap f us' cs h1 h2 h3 ho h4 _ _ ih1 ih2 => simp [cw, width, ih2, Nat.add_comm]
  | _ => simp [cw, width, *, Nat.add_comm]

theorem CRel.append {κ : Kap} {xs us : List AV} {ys vs : List Value} (r : CRel κ xs ys) (q : CRel κ us vs) : CRel κ (xs ++ us) (ys ++ vs) := by
  induction r with
  | nil => exact q
  | any y _ ih => exact .any y (ih q)
  | bool b _ ih => exact .bool b (ih q)
  | int k n _ ih => exact .int k n (ih q)
  | str s _ ih => exact .str s (ih q)
  | raw v _ ih => exact .raw v (ih q)
  | ptr n p o b ps h1 h2 _ ih => exact .ptr n p o b ps h1 h2 (ih q)
  | sptr c cs zs b off p o h1 h2 h3 h4 _ _ ih2 => exact .sptr c cs zs b off p o h1 h2 h3 h4 (ih2 q)
  | slc n ps o i w len cap b cap' a h1 h2 h3 h4 _ ih => exact .slc n ps o i w len cap b cap' a h1 h2 h3 h4 (ih q)
  | slc0 n o i w ps h1 _ ih => exact .slc0 n o i w ps h1 (ih q)
  | lst w len b off cap f us' cs h1 h2 h3 ho h4 h5 _ _ ih2 => exact .lst w len b off cap f us' cs h1 h2 h3 ho h4 h5 (ih2 q)
  | lst0 w cap f us' a _ ih => exact .lst0 w cap f us' a (ih q)
  | agg c zs h1 _ _ ih2 => exact .agg c zs h1 (ih2 q)
  | tup c zs h1 _ _ ih2 => exact .tup c zs h1 (ih2 q)
  | ifc t x y h1 _ _ ih2 => exact .ifc t x y h1 (ih2 q)
  | fn f a b as bs h1 h2 _ _ _ ih3 => exact .fn f a b as bs h1 h2 (ih3 q)
  | mp n b h1 _ ih => exact .mp n b h1 (ih q)
  | arr w n f us' zs h1 ho h2 h3 h4 _ _ ih2 => exact .arr w n f us' zs h1 ho h2 h3 (by rw [h4, List.append_assoc]) (ih2 q)
  | gh g y h1 _ ih => exact .gh g y h1 (ih q)

theorem CRel.cons_inv {κ : Kap} {x : AV} {xs : List AV} {us : List Value} (r : CRel κ (x :: xs) us) : ∃ zs ys, us = zs ++ ys ∧ CRel κ [x] zs ∧ CRel κ xs ys := by
  cases r with
  | any y h => exact ⟨[_], _, rfl, .any y .nil, h⟩
  | bool b h => exact ⟨[_], _, rfl, .bool b .nil, h⟩
  | int k n h => exact ⟨[_], _, rfl, .int k n .nil, h⟩
  | str s h => exact ⟨[_], _, rfl, .str s .nil, h⟩
  | raw v h => exact ⟨[_], _, rfl, .raw v .nil, h⟩
  | ptr n p o b ps h1 h2 h => exact ⟨[_], _, rfl, .ptr n p o b ps h1 h2 .nil, h⟩
  | sptr c cs zs b off p o h1 h2 h3 h4 h => exact ⟨[_], _, rfl, .sptr c cs zs b off p o h1 h2 h3 h4 .nil, h⟩
  | slc n ps o i w len cap b cap' a h1 h2 h3 h4 h => exact ⟨[_], _, rfl, .slc n ps o i w len cap b cap' a h1 h2 h3 h4 .nil, h⟩
  | slc0 n o i w ps h1 h => exact ⟨[_], _, rfl, .slc0 n o i w ps h1 .nil, h⟩
  | lst w len b off cap f us' cs h1 h2 h3 ho h4 h5 h => exact ⟨[_], _, rfl, .lst w len b off cap f us' cs h1 h2 h3 ho h4 h5 .nil, h⟩
  | lst0 w cap f us' a h => exact ⟨[_], _, rfl, .lst0 w cap f us' a .nil, h⟩
  | agg c zs h1 h => exact ⟨[_], _, rfl, .agg c zs h1 .nil, h⟩
  | tup c zs h1 h => exact ⟨[_], _, rfl, .tup c zs h1 .nil, h⟩
  | ifc t x y h1 h => exact ⟨[_], _, rfl, .ifc t x y h1 .nil, h⟩
  | fn f a b as bs h1 h2 h => exact ⟨[_], _, rfl, .fn f a b as bs h1 h2 .nil, h⟩
  | mp n b h1 h => exact ⟨[_], _, rfl, .mp n b h1 .nil, h⟩
  | arr w n f us' zs h1 ho h2 h3 h4 h => exact ⟨zs, _, h4, .arr w n f us' zs h1 ho h2 h3 (by simp) .nil, h⟩
  | gh g y h1 h => exact ⟨[_], _, rfl, .gh g y h1 .nil, h⟩

theorem CRel.split {κ : Kap} : ∀ {xs us : List AV} {ws : List Value}, CRel κ (xs ++ us) ws → ∃ ys vs, ws = ys ++ vs ∧ CRel κ xs ys ∧ CRel κ us vs
  | [], us, ws, r => ⟨[], ws, rfl, .nil, r⟩
  | x :: xs, us, ws, r => by
    obtain ⟨zs, ys, rfl, h1, h2⟩ := r.cons_inv
    obtain ⟨y1, v1, rfl, h3, h4⟩ := CRel.split (xs := xs) h2
    exact ⟨zs ++ y1, v1, by simp, by simpa using h1.append h3, h4⟩

theorem CRel.split_at {κ : Kap} {xs us : List AV} {ws : List Value} (r : CRel κ (xs ++ us) ws) : CRel κ xs (ws.take (cw xs)) ∧ CRel κ us (ws.drop (cw xs)) := by
  obtain ⟨ys, vs, rfl, h1, h2⟩ := r.split
  have := h1.length
  refine ⟨?_, ?_⟩
  · rw [← this, List.take_left']; exact h1; rfl
  · rw [← this, List.drop_left']; exact h2; rfl

/-- Values that are one cell, whose shape is known. -/
def one : AV → Bool
  | .bool _ | .int _ _ | .str _ | .ptr _ _ _ | .sptr _ _ | .slc _ _ _ _ _ _ _ | .lst _ _ _ _ | .ifc _ _ | .fn _ _ _ | .mp _ => true
  | .raw v => rawOk v
  | _ => false
theorem oneV_of {κ : Kap} {x : AV} {y : Value} (r : VRel κ x y) (h : one x = true) : oneV y = true := by
  cases x with
  | raw v => cases r; simp only [one] at h; cases y <;> first | rfl | (simp [rawOk] at h; done)
  | _ => first | (simp [one] at h; done) | (cases r <;> rfl)

/-- A value's cells. -/
def cells : AV → List AV
  | .agg c => c
  | x => [x]
/-- Is it known what cells it has? -/
def celled : AV → Bool
  | .agg _ => true
  | x => one x
theorem cells_rel {κ : Kap} {x : AV} {y : Value} (r : VRel κ x y) (h : celled x = true) : CRel κ (cells x) y.cells.toList := by
  by_cases ho : one x = true
  · have hy := oneV_of r ho
    have e1 : cells x = [x] := by cases x <;> simp [one] at ho <;> rfl
    have e2 : y.cells.toList = [y] := by cases y <;> simp [oneV] at hy <;> rfl
    rw [e1, e2]; exact r
  · cases x with
    | agg c => cases r with | agg c zs h1 h2 => exact h1
    | _ => simp [celled, ho] at h
end Go.Sv
