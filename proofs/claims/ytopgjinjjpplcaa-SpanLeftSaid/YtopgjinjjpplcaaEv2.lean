/- An evaluator for the model's code over an abstract memory, third part: the evaluator. -/
import Derived.Test.YtopgjinjjpplcaaEv1
namespace Go.Ev
open Go.RowKit

/-- Types of structs and arrays of numbers, bools and strings (of this translation), whose '==' is asked cell by cell. -/
def flatT : List Nat := [23, 24, 35, 36]
def memN : List Nat → Nat → Bool
  | [], _ => false
  | x :: xs, n => bif Nat.beq x n then true else memN xs n

/-! ### what is written out: the kernel then has it at hand -/
def nth : List Value → Nat → Option Value
  | [], _ => none
  | x :: _, 0 => some x
  | _ :: xs, n + 1 => nth xs n
theorem nth_eq : ∀ (l : List Value) (n : Nat), nth l n = l[n]?
  | [], _ => by simp [nth]
  | x :: _, 0 => by simp [nth]
  | _ :: xs, n + 1 => by simp [nth, nth_eq xs n]
def getE (A : Act) (t : Tmp) : Value :=
  match nth A.tmps.toList t with
  | some v => v
  | none => undef
theorem getE_eq (A : Act) (t : Tmp) : getE A t = A.tmps.getD t undef := by
  unfold getE
  rw [nth_eq, Array.getElem?_toList, Array.getD_eq_getD_getElem?]
  cases A.tmps[t]? <;> rfl
section
variable {R : Type}
def setK : List Value → Nat → Value → (List Value → Option R) → Option R
  | [], _, _, k => k []
  | _ :: xs, 0, v, k => k (v :: xs)
  | x :: xs, n + 1, v, k => setK xs n v fun l => k (x :: l)
theorem setK_eq : ∀ (l : List Value) (n : Nat) (v : Value) (k : List Value → Option R), setK l n v k = k (l.set n v)
  | [], _, _, _ => rfl
  | _ :: _, 0, _, _ => rfl
  | x :: xs, n + 1, v, k => by simp [setK, setK_eq xs n v]
def putK (A : Act) (d : Option Tmp) (v : Value) (k : Act → Option R) : Option R :=
  match d with
  | none => k A
  | some d =>
    match A with
    | ⟨⟨l⟩, ds⟩ => setK l d v fun l' => k ⟨⟨l'⟩, ds⟩
theorem putK_eq (A : Act) (d : Option Tmp) (v : Value) (k : Act → Option R) : putK A d v k = k (A.put d v) := by
  cases d with
  | none => rfl
  | some d =>
    obtain ⟨⟨l⟩, ds⟩ := A
    simp only [putK, setK_eq, Act.put]
    congr 2
    apply Array.ext'
    simp
def setAllK : List Value → Nat → List Value → (List Value → Option R) → Option R
  | c, _, [], k => k c
  | c, off, v :: vs, k => setK c off v fun c' => setAllK c' (off + 1) vs k
theorem setAllK_eq : ∀ (vs c : List Value) (off : Nat) (k : List Value → Option R), setAllK c off vs k = k (setAll c off vs)
  | [], _, _, _ => rfl
  | v :: vs, c, off, k => by simp only [setAllK, setK_eq, setAll]; exact setAllK_eq vs _ _ k
def updK : List (Nat × Row) → Nat → Row → (List (Nat × Row) → Option R) → Option R
  | [], _, _, k => k []
  | (i, o) :: r, n, x, k => bif Nat.beq i n then k ((i, x) :: r) else updK r n x fun m => k ((i, o) :: m)
theorem updK_eq : ∀ (m : List (Nat × Row)) (n : Nat) (x : Row) (k : List (Nat × Row) → Option R), updK m n x k = k (upd m n x)
  | [], _, _, _ => rfl
  | (i, o) :: r, n, x, k => by
    simp only [updK, upd]
    cases Nat.beq i n
    · simp only [cond_false]; exact updK_eq r n x _
    · rfl
def forceK : List Value → (List Value → Option R) → Option R
  | [], k => k []
  | x :: xs, k => forceK xs fun l => k (x :: l)
theorem forceK_eq : ∀ (l : List Value) (k : List Value → Option R), forceK l k = k l
  | [], _ => rfl
  | x :: xs, k => by simp only [forceK]; exact forceK_eq xs _
def natK (n : Nat) (k : Nat → Option R) : Option R :=
  match n with
  | 0 => k 0
  | m + 1 => k (m + 1)
theorem natK_eq (n : Nat) (k : Nat → Option R) : natK n k = k n := by cases n <;> rfl
def repK : Nat → (List Value → Option R) → Option R
  | 0, k => k []
  | n + 1, k => repK n fun l => k (undef :: l)
theorem repK_eq : ∀ (n : Nat) (k : List Value → Option R), repK n k = k (List.replicate n undef)
  | 0, _ => rfl
  | n + 1, k => by simp only [repK]; rw [repK_eq n]; rfl
def padK : List Value → Nat → (List Value → Option R) → Option R
  | [], n, k => repK n k
  | x :: xs, n, k => padK xs (n - 1) fun l => k (x :: l)
theorem padK_eq : ∀ (l : List Value) (n : Nat) (k : List Value → Option R), padK l n k = k (l ++ List.replicate (n - l.length) undef)
  | [], n, k => by simp only [padK, repK_eq]; rfl
  | x :: xs, n, k => by
    simp only [padK]
    rw [padK_eq xs]
    simp only [List.length_cons, List.cons_append]
    rw [show n - 1 - xs.length = n - (xs.length + 1) from by omega]
end

/-! ### the evaluator: it hands on what it comes to ('k'); nothing where it does not know -/
def aeval (A : Act) : Operand → Option Value
  | .tmp t => some (getE A t)
  | .const v => bif plain v then some v else none
  | .global _ => none
  | .func f => some (.func (.func f) #[] #[])

def aevals (A : Act) : List Operand → Option (List Value)
  | [] => some []
  | x :: xs => match aeval A x with
    | none => none
    | some v => match aevals A xs with
      | none => none
      | some vs => some (v :: vs)

/-- Do all operands hold plain values? -/
def plainOps (A : Act) : List Operand → Bool
  | [] => true
  | x :: xs => match aeval A x with
    | none => false
    | some v => bif plain v then plainOps A xs else false

def takeN : Nat → List Value → Option (List Value)
  | 0, _ => some []
  | _ + 1, [] => none
  | n + 1, v :: vs => match takeN n vs with
    | none => none
    | some us => some (v :: us)

section
variable {R : Type} (P : Program)

/-- An operation that looks at plain values alone. -/
def pureE (o : Oper) (A : Act) (st : AS) (k : Value → AS → Option R) : Option R :=
  bif plainOps A o.op.operands.toList then
    match qrun P (execOp A.eval o) with
    | some (.value v) => bif plain v then k v st else none
    | _ => none
  else none

def loadE (t : TypeId) (x : Operand) (A : Act) (st : AS) (k : Value → AS → Option R) : Option R :=
  match aeval A x with
  | some (.pointer (some ⟨n, off, none⟩)) =>
    match find st.mem n with
    | none => none
    | some r =>
      match qrun P (isAgg t) with
      | none => none
      | some false =>
        match nth r.c off with
        | some v => k v st
        | none => none
      | some true =>
        match qrun P (sizeOf t) with
        | none => none
        | some s =>
          match takeN s (r.c.drop off) with
          | some vs => k (.agg ⟨vs⟩) st
          | none => none
  | _ => none

def storeE (t : TypeId) (x y : Operand) (A : Act) (st : AS) (k : Value → AS → Option R) : Option R :=
  match aeval A x with
  | some (.pointer (some ⟨n, off, none⟩)) =>
    match aeval A y with
    | none => none
    | some v =>
      match find st.mem n with
      | none => none
      | some r =>
        match qrun P (sizeOf t) with
        | none => none
        | some s =>
          bif r.own && (Nat.beq v.cells.toList.length s && (Nat.ble (off + s) r.c.length && v.cells.toList.all one)) then
            setAllK r.c off v.cells.toList fun c => updK st.mem n ⟨c, r.own, r.exact⟩ fun m => k undef ⟨st.next, m⟩
          else none
  | _ => none

def fieldE (s : TypeId) (x : Operand) (f : Nat) (A : Act) (st : AS) (k : Value → AS → Option R) : Option R :=
  match aeval A x with
  | some (.pointer (some ⟨n, off, none⟩)) =>
    match qrun P (underlying s) with
    | some (.struct fields) =>
      match fields[f]? with
      | none => none
      | some fd =>
        match qrun P (sizeOf fd.type) with
        | none => none
        | some z => bif Nat.beq z 0 then none else k (.pointer (some ⟨n, off + fd.offset, none⟩)) st
    | _ => none
  | _ => none

/-- '==' of two values of a type, cell by cell. -/
def andO : Bool → Option Bool → Option Bool
  | b, some c => some (b && c)
  | _, none => none
def eqFields (rec : TypeId → Value → Value → Option Bool) (xs ys : Array Value) : List Field → Option Bool
  | [] => some true
  | f :: fs =>
    bif decide (f.name = "_") then none else
    match qrun P (part f.type xs f.offset), qrun P (part f.type ys f.offset) with
    | some u, some v =>
      match rec f.type u v with
      | some b => andO b (eqFields rec xs ys fs)
      | none => none
    | _, _ => none
def eqElems (rec : TypeId → Value → Value → Option Bool) (e : TypeId) (n : Nat) (xs ys : Array Value) : List Nat → Option Bool
  | [] => some true
  | i :: is =>
    match qrun P (part e xs (i * n)), qrun P (part e ys (i * n)) with
    | some u, some v =>
      match rec e u v with
      | some b => andO b (eqElems rec e n xs ys is)
      | none => none
    | _, _ => none
def eqTy : Nat → TypeId → Value → Value → Option Bool
  | 0, _, _, _ => none
  | d + 1, t, x, y =>
    match qrun P (underlying t), x, y with
    | some .bool, .bool a, .bool b => some (a == b)
    | some (.int _), .int k a, .int k' b => bif decide (k = k') then some (a == b) else none
    | some .string, .string a, .string b => some (a == b)
    | some (.struct fs), .agg xs, .agg ys => bif memN flatT t then eqFields P (eqTy d) xs ys fs.toList else none
    | some (.array len e), .agg xs, .agg ys =>
      match qrun P (sizeOf e) with
      | some n => eqElems P (eqTy d) e n xs ys (List.range' 0 len)
      | none => none
    | _, _, _ => none

/-- Two operands. -/
def binE (o : Oper) (op : BinOp) (t : TypeId) (x y : Operand) (A : Act) (st : AS) (k : Value → AS → Option R) : Option R :=
  match aeval A x, aeval A y with
  | some (.int kd a), some (.int kd' b) =>
    match op with
    | .shl => bif decide (b < 0) then none else k (.int kd (kd.wrap (a * 2 ^ (min b.toNat kd.bits)))) st
    | .shr => bif decide (b < 0) then none else k (.int kd (a.fdiv (2 ^ (min b.toNat kd.bits)))) st
    | .quo => bif decide (kd = kd') then bif decide (b = 0) then none else k (.int kd (kd.wrap (a.tdiv b))) st else none
    | .rem => bif decide (kd = kd') then bif decide (b = 0) then none else k (.int kd (a.tmod b)) st else none
    | _ => pureE P o A st k
  | some (.agg xs), some (.agg ys) =>
    bif !(plain (.agg xs) && plain (.agg ys)) then none else
    match op with
    | .eql => bif !(memN flatT t) then none else match eqTy P Op.maxDepth t (.agg xs) (.agg ys) with | some b => k (.bool b) st | none => none
    | .neq => bif !(memN flatT t) then none else match eqTy P Op.maxDepth t (.agg xs) (.agg ys) with | some b => k (.bool (!b)) st | none => none
    | _ => none
  | _, _ => pureE P o A st k

/-- A string's byte. -/
def indexE (o : Oper) (t : TypeId) (x y : Operand) (A : Act) (st : AS) (k : Value → AS → Option R) : Option R :=
  match aeval A x, aeval A y with
  | some (.string s), some (.int _ i) =>
    match qrun P (underlying t) with
    | some .string => bif decide (0 ≤ i) && decide (i < s.size) then k (.int .u8 (((s[i.toNat]?).getD 0).toNat : Int)) st else none
    | _ => none
  | _, _ => pureE P o A st k

/-- The address of an element; of a short row each place for itself, so that the place is known. -/
def selK (i : Int) (off size : Nat) : Nat → Nat → (Nat → Option R) → Option R
  | 0, _, _ => none
  | n + 1, j, k => bif decide (i = (j : Int)) then k (off + j * size) else selK i off size n (j + 1) k
def placeK (i : Int) (off size len : Nat) (k : Nat → Option R) : Option R :=
  bif Nat.ble len 8 then selK i off size len 0 k
  else bif decide (0 ≤ i) && decide (i < (len : Int)) then k (off + i.toNat * size) else none
def indexAddrE (t : TypeId) (x y : Operand) (A : Act) (st : AS) (k : Value → AS → Option R) : Option R :=
  match aeval A y with
  | some (.int _ i) =>
    match aeval A x with
    | some (.slice (some ⟨n, off, none⟩) len _) =>
      match qrun P (underlying t) with
      | some (.slice e) =>
        match qrun P (sizeOf e) with
        | some size => placeK i off size len fun o => k (.pointer (some ⟨n, o, none⟩)) st
        | none => none
      | _ => none
    | some (.pointer (some ⟨n, off, none⟩)) =>
      match qrun P (underlying t) with
      | some (.array len e) =>
        match qrun P (sizeOf e) with
        | some size => placeK i off size len fun o => k (.pointer (some ⟨n, o, none⟩)) st
        | none => none
      | _ => none
    | _ => none
  | _ => none

/-- Lengths. -/
def lenE (o : Oper) (t : TypeId) (x : Operand) (A : Act) (st : AS) (k : Value → AS → Option R) : Option R :=
  match aeval A x with
  | some (.slice (some _) len _) =>
    match qrun P (underlying t) with
    | some (.slice _) => k (.int .i64 (len : Int)) st
    | _ => none
  | _ => pureE P o A st k

/-- New rows: what they hold, and the value that names them. -/
def newV (s : Option (Nat × Nat)) (a : Addr) : Value :=
  match s with
  | none => .pointer (some a)
  | some (l, c) => .slice (some a) l c
def evParts (A : Act) : List (Nat × Operand) → Option (List (Nat × Value))
  | [] => some []
  | (i, x) :: r =>
    match aeval A x, evParts A r with
    | some v, some vs => some ((i, v) :: vs)
    | _, _ => none
def allocE (o : Oper) (A : Act) : Option (Option (Nat × Nat) × List Value) :=
  match o.op with
  | .alloc t =>
    match qrun P (zeroValue t) with
    | some z => bif plain z then some (none, z.cells.toList) else none
    | none => none
  | .box _ x =>
    match aeval A x with
    | some v => some (none, v.cells.toList)
    | none => none
  | .buildSlice t len parts =>
    match qrun P (underlying t) with
    | some (.slice e) =>
      match qrun P (sizeOf e), qrun P (zeroValue e), evParts A parts.toList with
      | some size, some z, some ps =>
        bif Nat.ble (len * size) (2 ^ 24) && (!(Nat.beq (len * size) 0) && plain z) then
          match Instr.fill (fun i => some (i * size, size)) ((Array.range (len * size)).map (z.cells[· % z.cells.size]!)) ps with
          | some cells => some (some (len, len), cells.toList)
          | none => none
        else none
      | _, _, _ => none
    | _ => none
  | _ => none

/-- What leaves the memory alone and calls nobody. -/
def stillE (o : Oper) (A : Act) (st : AS) (k : Value → AS → Option R) : Option R :=
  match o.op with
  | .move x => match aeval A x with | some v => k v st | none => none
  | .assign x => match aeval A x with | some v => k v st | none => none
  | .pick c x y =>
    match aeval A c, aeval A x, aeval A y with
    | some (.bool b), some v, some u => bif b then k v st else k u st
    | _, _, _ => none
  | .load t x => loadE P t x A st k
  | .fieldAddr s x f => fieldE P s x f A st k
  | .binOp op t x y _ => binE P o op t x y A st k
  | .index t x y => indexE P o t x y A st k
  | .indexAddr t x y => indexAddrE P t x y A st k
  | .call c =>
    match c.callee with
    | .builtin .len => match c.args.toList, c.argTypes.toList with | [x], [t] => lenE P o t x A st k | _, _ => none
    | _ => pureE P o A st k
  | _ => pureE P o A st k

/-- The function that an operation calls, if that has a body. -/
def calls (o : Oper) : Option (FuncId × Array Operand) :=
  match o.op with
  | .call c =>
    match c.callee with
    | .value (.func g) =>
      match P.funcs[g]? with
      | none => none
      | some fn =>
        match fn.body with
        | none => none
        | some _ => some (g, c.args)
    | _ => none
  | _ => none

def opE (call : FuncId → List Value → AS → (Value → AS → Option R) → Option R) (o : Oper) (A : Act) (st : AS) (k : Value → AS → Option R) : Option R :=
  match o.op with
  | .alloc _ | .box _ _ | .buildSlice _ _ _ =>
    match allocE P o A with
    | some (s, c) => forceK c fun c => natK st.next fun n => k (newV s ⟨n, 0, none⟩) ⟨n + 1, (n, ⟨c, true, true⟩) :: st.mem⟩
    | none => none
  | .store t x y => storeE P t x y A st k
  | .call _ =>
    match calls P o with
    | some (g, args) =>
      match aevals A args.toList with
      | some vs => call g vs st k
      | none => none
    | none => stillE P o A st k
  | .move x => match aeval A x with | some v => k v st | none => none
  | .assign x => match aeval A x with | some v => k v st | none => none
  | .pick c x y =>
    match aeval A c, aeval A x, aeval A y with
    | some (.bool b), some v, some u => bif b then k v st else k u st
    | _, _, _ => none
  | .load t x => loadE P t x A st k
  | .fieldAddr s x f => fieldE P s x f A st k
  | .binOp op t x y _ => binE P o op t x y A st k
  | .index t x y => indexE P o t x y A st k
  | .indexAddr t x y => indexAddrE P t x y A st k
  | _ => pureE P o A st k

def wantE (ops : Array Oper) (o : Oper) (A : Act) (kw ks : Act → Option R) : Option R :=
  match o.guard with
  | none => kw A
  | some (j, want) =>
    match (ops[j]?).bind (·.dst) with
    | none => ks A
    | some t =>
      match nth A.tmps.toList t with
      | some (.bool b) =>
        bif b then putK A (some t) (.bool true) fun A => bif want then kw A else ks A
        else putK A (some t) (.bool false) fun A => bif want then ks A else kw A
      | _ => ks A

def opsE (call : FuncId → List Value → AS → (Value → AS → Option R) → Option R) (ops : Array Oper) : List Oper → Act → AS → (Act → AS → Option R) → Option R
  | [], A, st, k => k A st
  | o :: rest, A, st, k =>
    wantE ops o A (fun A => opE P call o A st fun v st => putK A o.dst v fun A => opsE call ops rest A st k)
      (fun A => putK A o.dst undef fun A => opsE call ops rest A st k)

inductive EK where
  | normal
  | exit (id : Nat)
  | ret
def EK.toExit : EK → Exit
  | .normal => .normal
  | .exit id => .exit id
  | .ret => .ret

def resE (A : Act) (st : AS) : List ResultVar → Option (List Value)
  | [] => some []
  | .tmp t :: rs => match resE A st rs with
    | some vs => some (getE A t :: vs)
    | none => none
  | .cell a t :: rs => match resE A st rs with
    | some vs =>
      match getE A a with
      | .pointer (some ⟨n, off, none⟩) =>
        match find st.mem n with
        | none => none
        | some r =>
          match qrun P (isAgg t) with
          | none => none
          | some false =>
            match nth r.c off with
            | some v => some (v :: vs)
            | none => none
          | some true =>
            match qrun P (sizeOf t) with
            | none => none
            | some s =>
              match takeN s (r.c.drop off) with
              | some us => some (.agg ⟨us⟩ :: vs)
              | none => none
      | _ => none
    | none => none

end
def oneOf : List Value → Value
  | [v] => v
  | vs => .tuple ⟨vs⟩

/-- What is known of calls: what they come to, of their arguments and the memory. -/
abbrev KT := (R : Type) → FuncId → List Value → AS → Option ((Value → AS → Option R) → Option R)

/-- A function's end: its results are read. -/
def finE {R : Type} (P : Program) (fn : Func) (k : Value → AS → Option R) (e : EK) (A : Act) (st : AS) : Option R :=
  match e with
  | .exit _ => none
  | _ =>
    match resE P A st fn.results.toList with
    | none => none
    | some vs => k (oneOf vs) st

/-- Behind a call that was handed plain values alone: it ran on a memory of its own. -/
def backE {R : Type} (st : AS) (k : Value → AS → Option R) (v : Value) (st' : AS) : Option R :=
  bif plain v then k v st else bif st'.mem.all (fun p => p.2.own) && Nat.ble st.next st'.next then k v ⟨st'.next, st'.mem ++ st.mem⟩ else none

def enterE (fn : Func) (args : List Value) : Act := { tmps := ⟨args ++ List.replicate (fn.ntmps - args.length) undef⟩, defers := [] }
def enterK {R : Type} (fn : Func) (args : List Value) (k : Act → Option R) : Option R := padK args fn.ntmps fun l => k ⟨⟨l⟩, []⟩
theorem enterK_eq {R : Type} (fn : Func) (args : List Value) (k : Act → Option R) : enterK fn args k = k (enterE fn args) := by
  unfold enterK; rw [padK_eq]; rfl

abbrev Reg (R : Type) := (FuncId → List Value → AS → (Value → AS → Option R) → Option R) → Array Oper → Act → AS → (Act → AS → Option R) → Option R

section
variable {R : Type} (P : Program)
def evCode (K : KT) (reg : Reg R) : Nat → Code → Act → AS → (EK → Act → AS → Option R) → Option R
  | 0, _, _, _, _ => none
  | fuel + 1, c, A, st, k =>
    match c with
    | .skip => k .normal A st
    | .label _ => k .normal A st
    | .exit id => k (.exit id) A st
    | .ret => k .ret A st
    | .seq x y => evCode K reg fuel x A st fun e A st =>
        match e with
        | .normal => evCode K reg fuel y A st k
        | .exit i => k (.exit i) A st
        | .ret => k .ret A st
    | .cond c x y =>
      match c with
      | .tmp t =>
        match nth A.tmps.toList t with
        | some (.bool b) => bif b then putK A (some t) (.bool true) fun A => evCode K reg fuel x A st k else putK A (some t) (.bool false) fun A => evCode K reg fuel y A st k
        | _ => none
      | .const (.bool b) => bif b then evCode K reg fuel x A st k else evCode K reg fuel y A st k
      | _ => none
    | .block id body => evCode K reg fuel body A st fun e A st =>
        match e with
        | .exit i => bif Nat.beq i id then k .normal A st else k (.exit i) A st
        | .normal => k .normal A st
        | .ret => k .ret A st
    | .loop body => evCode K reg fuel body A st fun e A st =>
        match e with
        | .normal => evCode K reg fuel (.loop body) A st k
        | .exit i => k (.exit i) A st
        | .ret => k .ret A st
    | .scope body => evCode K reg fuel body A st k
    | .region _ ops draw =>
      let call := fun (g : FuncId) (args : List Value) (st : AS) (k : Value → AS → Option R) =>
        match K R g args st with
        | some F => F k
        | none =>
          match P.funcs[g]? with
          | none => none
          | some fn =>
            match fn.body with
            | none => none
            | some body =>
              enterK fn args fun A => bif args.all plain then evCode K reg fuel body A ⟨st.next, []⟩ (finE P fn (backE st k))
              else evCode K reg fuel body A st (finE P fn k)
      bif draw then reg call ops A st fun A st => k .normal A st
      else opsE P call ops ops.toList A st fun A st => k .normal A st
    | _ => none

/-- A function. -/
def evFn (K : KT) (reg : Reg R) (fuel : Nat) (g : FuncId) (args : List Value) (st : AS) (k : Value → AS → Option R) : Option R :=
  match P.funcs[g]? with
  | none => none
  | some fn =>
    match fn.body with
    | none => none
    | some body => enterK fn args fun A => evCode P K reg fuel body A st (finE P fn k)
end

/-! ### what is asked of a program's statements that draw their order, once -/
/-- Each operation's slot is its own; what it looks at is written by operations that it waits for. -/
def sameDst (x y : Option Tmp) : Bool :=
  match x, y with
  | some a, some b => Nat.beq a b
  | _, _ => false
def dstFrom (l : List Oper) (t : Tmp) : Bool := l.any fun o => sameDst o.dst (some t)
def waits (o : Oper) (j : Nat) : Bool := o.after.toList.any fun e => Region.binds .any e && Nat.beq e.on j
def waitsAll (o : Oper) (t : Tmp) : Nat → List Oper → Bool
  | _, [] => true
  | j, p :: ps => (bif sameDst p.dst (some t) then waits o j else true) && waitsAll o t (j + 1) ps
def okFrom (ops : Array Oper) (sz : Nat) : Nat → List Oper → List Oper → Bool
  | _, _, [] => true
  | i, done, o :: rest =>
    (match o.dst with | none => true | some d => Nat.blt d sz && !(dstFrom done d) ) &&
    ((o.looksAt ops).all (fun t => waitsAll o t 0 done && !(dstFrom (o :: rest) t)) &&
    ((o.after.toList.all fun e => !(Region.binds .any e) || Nat.blt e.on i) && okFrom ops sz (i + 1) (done ++ [o]) rest))
def codeOk (sz : Nat) : Code → Bool
  | .region _ ops draw => bif draw then okFrom ops sz 0 [] ops.toList && Region.noSelect ops else true
  | .seq a b => codeOk sz a && codeOk sz b
  | .cond _ a b => codeOk sz a && codeOk sz b
  | .block _ b => codeOk sz b
  | .loop b => codeOk sz b
  | .scope b => codeOk sz b
  | _ => true
def funcOk (fn : Func) : Bool :=
  match fn.body with
  | some b => codeOk fn.ntmps b
  | none => true
end Go.Ev
