/- An evaluator for the model's code over an abstract memory, seventh part: statements that draw their order. -/
import Derived.Test.YtopgjinjjpplcaaEv5
namespace Go.Ev
open Go.RowKit

inductive Eff where
  | none
  | new (s : Option (Nat × Nat)) (c : List Value)
  | set (n off : Nat) (vs : List Value)

structure Ent where
  v : Value
  eff : Eff
  rd : Option Nat

section
variable {R : Type} (P : Program)

def opB (call : FuncId → List Value → AS → (Value → AS → Option R) → Option R) (base i : Nat) (m : List (Nat × Row)) (o : Oper) (A : Act) (k : Ent → Option R) : Option R :=
  match o.op with
  | .alloc _ | .box _ _ | .buildSlice _ _ _ =>
    match allocE P o A with
    | some (s, c) => k ⟨newV s ⟨base + i, 0, none⟩, .new s c, none⟩
    | none => none
  | .store t x y =>
    match aeval A x with
    | some (.pointer (some ⟨n, off, none⟩)) =>
      match aeval A y with
      | none => none
      | some v =>
        match qrun P (sizeOf t) with
        | none => none
        | some s => bif Nat.beq v.cells.toList.length s && v.cells.toList.all one then k ⟨undef, .set n off v.cells.toList, none⟩ else none
    | _ => none
  | .load _ x =>
    match aeval A x with
    | some (.pointer (some ⟨n, _, none⟩)) =>
      match find m n with
      | some row => stillE P o A ⟨0, [(n, row)]⟩ fun v _ => k ⟨v, .none, some n⟩
      | none => none
    | _ => none
  | _ =>
    match calls P o with
    | some (g, args) =>
      match aevals A args.toList with
      | some vs => bif vs.all plain then call g vs ⟨0, []⟩ fun v _ => bif plain v then k ⟨v, .none, none⟩ else none else none
      | none => none
    | none => stillE P o A ⟨0, []⟩ fun v _ => k ⟨v, .none, none⟩

def opsB (call : FuncId → List Value → AS → (Value → AS → Option R) → Option R) (ops : Array Oper) (base : Nat) (m : List (Nat × Row)) : Nat → List Oper → Act → (Act → List Ent → Option R) → Option R
  | _, [], A, k => k A []
  | i, o :: rest, A, k =>
    wantE ops o A (fun A => opB P call base i m o A fun e => putK A o.dst e.v fun A => opsB call ops base m (i + 1) rest A fun A' es => k A' (e :: es))
      (fun A => putK A o.dst undef fun A => opsB call ops base m (i + 1) rest A fun A' es => k A' (⟨undef, .none, none⟩ :: es))
end

def disj (off len off' len' : Nat) : Bool := Nat.ble (off + len) off' || Nat.ble (off' + len') off
def setOk1 (base i : Nat) (n off len : Nat) : List Ent → Bool
  | [] => true
  | e :: es =>
    (match e.eff with
     | .set n' off' vs' => !(Nat.beq n n') || disj off len off' vs'.length
     | _ => true) && setOk1 base i n off len es
def rowLen (base : Nat) (m : List (Nat × Row)) (es : List Ent) (n : Nat) : Option Nat :=
  bif Nat.blt n base then
    match find m n with
    | some r => bif r.own then some r.c.length else none
    | none => none
  else
    match es[n - base]? with
    | some e => match e.eff with
      | .new _ c => some c.length
      | _ => none
    | none => none
def fits (base : Nat) (m : List (Nat × Row)) (es : List Ent) (n off len : Nat) : Bool :=
  match rowLen base m es n with
  | some k => Nat.ble (off + len) k
  | none => false
/-- No two stores meet; each lies within its row. -/
def setsOk (base : Nat) (m : List (Nat × Row)) (all : List Ent) : Nat → List Ent → Bool
  | _, [] => true
  | i, e :: es =>
    (match e.eff with
     | .set n off vs => setOk1 base i n off vs.length es && (fits base m all n off vs.length && Nat.blt n (base + i))
     | _ => true) && setsOk base m all (i + 1) es
def isSet (es : List Ent) (n : Nat) : Bool := es.any fun e => match e.eff with | .set n' _ _ => Nat.beq n n' | _ => false
def readsOk (es : List Ent) : Bool := es.all fun e => match e.rd with | some n => !(isSet es n) | none => true

def app1 (base i : Nat) (e : Ent) (m : List (Nat × Row)) : List (Nat × Row) :=
  match e.eff with
  | .none => m
  | .new _ c => (base + i, ⟨c, true, true⟩) :: m
  | .set n off vs =>
    match find m n with
    | some r => upd m n { r with c := setAll r.c off vs }
    | none => m
def appAll (base : Nat) : Nat → List Ent → List (Nat × Row) → List (Nat × Row)
  | _, [], m => m
  | i, e :: es, m => appAll base (i + 1) es (app1 base i e m)

def app1K {R : Type} (base i : Nat) (e : Ent) (m : List (Nat × Row)) (k : List (Nat × Row) → Option R) : Option R :=
  match e.eff with
  | .none => k m
  | .new _ c => forceK c fun c => k ((base + i, ⟨c, true, true⟩) :: m)
  | .set n off vs =>
    match find m n with
    | some r => setAllK r.c off vs fun c => updK m n ⟨c, r.own, r.exact⟩ k
    | none => k m
theorem app1K_eq {R : Type} (base i : Nat) (e : Ent) (m : List (Nat × Row)) (k : List (Nat × Row) → Option R) : app1K base i e m k = k (app1 base i e m) := by
  unfold app1K app1
  cases e.eff with
  | none => rfl
  | new s c => simp only [forceK_eq]
  | set n off vs =>
    cases hf : find m n with
    | none => simp only [hf]
    | some r => simp only [hf, setAllK_eq, updK_eq]
def appAllK {R : Type} (base : Nat) : Nat → List Ent → List (Nat × Row) → (List (Nat × Row) → Option R) → Option R
  | _, [], m, k => k m
  | i, e :: es, m, k => app1K base i e m fun m => appAllK base (i + 1) es m k
theorem appAllK_eq {R : Type} (base : Nat) : ∀ (es : List Ent) (i : Nat) (m : List (Nat × Row)) (k : List (Nat × Row) → Option R), appAllK base i es m k = k (appAll base i es m)
  | [], _, _, _ => rfl
  | e :: es, i, m, k => by simp only [appAllK, app1K_eq, appAll]; exact appAllK_eq base es _ _ k

def regB {R : Type} (P : Program) : Reg R := fun call ops A st k =>
  natK st.next fun next =>
    opsB P call ops next st.mem 0 ops.toList A fun A' es =>
      bif setsOk next st.mem es 0 es && readsOk es then appAllK next 0 es st.mem fun m => k A' ⟨next + ops.size, m⟩ else none
end Go.Ev
