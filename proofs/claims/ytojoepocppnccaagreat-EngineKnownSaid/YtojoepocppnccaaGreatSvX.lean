/- A second evaluator for the model's code: the same, in a form that the kernel runs faster. -/
import Derived.Test.YtojoepocppnccaaGreatSvK
namespace Go.Sv
noncomputable section
open Go.RowKit

/-! ### operations -/
abbrev OpTy := (R : Type) → Program → Oper → Env → AS → (Ent → Option R) → Option R
def buildXE {R : Type} (P : Program) (t : TypeId) (parts : Array (Nat × Operand)) (E : Env) (st : AS) (k : Ent → Option R) : Option R :=
  match P.underlying t with
  | some (.array _ _) => buildArrE P t parts E st.mem k
  | _ => structE P t parts E k
def callBE {R : Type} (P : Program) (c : Call) (o : Oper) (E : Env) (st : AS) (k : Ent → Option R) : Option R :=
  match c.callee with
    | .builtin .delete => match c.args.toList with
      | [x, ix] => match c.argTypes.toList with
        | [t, _] => deleteE P t x ix E st.mem k
        | _ => none
      | _ => none
    | .builtin .len => match c.args.toList with
      | [x] => match c.argTypes.toList with
        | [t] => match aeval E x with
          | some (.mp _) => lenMapE P t x E st.mem k
          | _ => lenE P o t x E k
        | _ => none
      | _ => none
    | .builtin .append => match c.args.toList with
      | [x, y] => match c.argTypes.toList with
        | [t, tx] => bif flatElem P t then appendFE P t tx x y E st k else appendE P t tx x y E st k
        | _ => none
      | _ => none
    | .builtin .min => minE P o false c.args.toList E k
    | .builtin .max => minE P o true c.args.toList E k
    | .builtin .copy => match c.args.toList with
      | [x, y] => match c.argTypes.toList with
        | [t, tx] => copyE P t tx x y E st.mem k
        | _ => none
      | _ => none
    | .builtin .clear => match c.args.toList with
      | [x] => match c.argTypes.toList with
        | [t] => clearE P t x E st.mem k
        | _ => none
      | _ => none
    | _ => pureE P o E k
def optT (op : Op) : OpTy := @Op.rec (fun _ => OpTy)
  (fun x _ _ _ E _ k => moveE x E k)
  (fun x _ _ _ E _ k => moveE x E k)
  (fun c a b _ _ _ E _ k => pickE c a b E k)
  (fun t _ P _ _ st k => allocE P t st k)
  (fun _ v _ _ _ E st k => boxE v E st k)
  (fun t parts _ P _ E st k => buildXE P t parts E st k)
  (fun t len parts _ P _ E st k => buildSliceE P t len parts E st k)
  (fun t x ix y _ P _ E st k => mapUpdateE P t x ix y E st.mem k)
  (fun t x _ P _ E st k => loadXE P t x E st.mem k)
  (fun t x y _ P _ E st k => storeE P t x y E st.mem k)
  (fun _ _ P o E _ k => pureE P o E k)
  (fun _ _ P o E _ k => pureE P o E k)
  (fun x _ P o E _ k => nilCheckE P o x E k)
  (fun op t x y _ _ P o E st k => cmpE P o op t x y E st.mem k)
  (fun _ _ _ _ P o E _ k => pureE P o E k)
  (fun _ _ _ _ P o E _ k => pureE P o E k)
  (fun d x _ P _ E _ k => toArrE P d x E k)
  (fun t x _ P _ E _ k => makeInterfaceE P t x E k)
  (fun fn first captured _ _ _ E _ k => makeFuncE fn first captured E k)
  (fun t rv _ P _ E st k => makeMapE P t rv E st k)
  (fun _ _ _ P o E _ k => pureE P o E k)
  (fun t x y _ P _ E st k => makeSliceE P t x y E st k)
  (fun t x lo hi mx _ P _ E st k => sliceE P t x lo hi mx E st.mem k)
  (fun s x f _ P _ E _ k => fieldAddrE P s x f E k)
  (fun t x f _ P _ E _ k => fieldE P t x f E k)
  (fun t x y _ P _ E st k => indexAddrE P t x y E fun e => normE st.mem e k)
  (fun t x y _ P _ E _ k => indexE P t x y E k)
  (fun t x ix ok _ P _ E st k => lookupE P t x ix ok E st.mem k)
  (fun t x ix y _ P _ E st k => mapUpdateE P t x ix y E st.mem k)
  (fun _ _ _ _ P o E _ k => pureE P o E k)
  (fun _ _ _ _ _ P o E _ k => pureE P o E k)
  (fun _ _ _ P o E _ k => pureE P o E k)
  (fun _ _ _ P o E _ k => pureE P o E k)
  (fun _ _ P o E _ k => pureE P o E k)
  (fun _ _ _ _ _ P o E _ k => pureE P o E k)
  (fun x i _ _ _ E _ k => extractE x i E k)
  (fun c _ P o E st k => callBE P c o E st k)
  (fun _ _ P o E _ k => pureE P o E k)
  (fun _ _ P o E _ k => pureE P o E k)
  (fun _ _ P o E _ k => pureE P o E k)
  (fun _ _ _ P o E _ k => pureE P o E k)
  (fun _ _ _ _ P o E _ k => pureE P o E k)
  (fun _ _ _ P o E _ k => pureE P o E k)
  op
theorem optT_eq {R : Type} (P : Program) (o : Oper) (E : Env) (st : AS) (k : Ent → Option R) : optT o.op R P o E st k = opE P o E st k := by
  unfold opE
  generalize o.op = op
  cases op <;> rfl
def callC (P : Program) (c : Call) (E : Env) : Option (FuncId × List AV) :=
  match c.callee with
  | .value f => match aeval E f with
    | some (.fn g a b) => match aevals E c.args.toList with
      | some vs => match P.funcs[g]? with
        | some fn => match fn.body with
          | some _ => bif (a ++ (vs ++ b)).all (fun x => !isArr x) then some (g, a ++ (vs ++ b)) else none
          | none => none
        | none => none
      | none => none
    | _ => none
  | _ => none
def calT (op : Op) : Program → Env → Option (FuncId × List AV) := @Op.rec (fun _ => Program → Env → Option (FuncId × List AV))
  (fun _ _ _ => none)
  (fun _ _ _ => none)
  (fun _ _ _ _ _ => none)
  (fun _ _ _ => none)
  (fun _ _ _ _ => none)
  (fun _ _ _ _ => none)
  (fun _ _ _ _ _ => none)
  (fun _ _ _ _ _ _ => none)
  (fun _ _ _ _ => none)
  (fun _ _ _ _ _ => none)
  (fun _ _ _ => none)
  (fun _ _ _ => none)
  (fun _ _ _ => none)
  (fun _ _ _ _ _ _ _ => none)
  (fun _ _ _ _ _ => none)
  (fun _ _ _ _ _ => none)
  (fun _ _ _ _ => none)
  (fun _ _ _ _ => none)
  (fun _ _ _ _ _ => none)
  (fun _ _ _ _ => none)
  (fun _ _ _ _ => none)
  (fun _ _ _ _ _ => none)
  (fun _ _ _ _ _ _ _ => none)
  (fun _ _ _ _ _ => none)
  (fun _ _ _ _ _ => none)
  (fun _ _ _ _ _ => none)
  (fun _ _ _ _ _ => none)
  (fun _ _ _ _ _ _ => none)
  (fun _ _ _ _ _ _ => none)
  (fun _ _ _ _ _ => none)
  (fun _ _ _ _ _ _ => none)
  (fun _ _ _ _ => none)
  (fun _ _ _ _ => none)
  (fun _ _ _ => none)
  (fun _ _ _ _ _ _ => none)
  (fun _ _ _ _ => none)
  (fun c P E => callC P c E)
  (fun _ _ _ => none)
  (fun _ _ _ => none)
  (fun _ _ _ => none)
  (fun _ _ _ _ => none)
  (fun _ _ _ _ _ => none)
  (fun _ _ _ _ => none)
  op
theorem calT_eq (P : Program) (o : Oper) (E : Env) : calT o.op P E = callee P o E := by
  unfold callee
  generalize o.op = op
  cases op <;> rfl
def putF {R : Type} (E : Env) (d : Option Tmp) (v : AV) (k : Env → Option R) : Option R := @Option.rec Tmp (fun _ => Env → AV → (Env → Option R) → Option R) (fun E _ k => k E) (fun d E v k => E.setK d v k) d E v k
theorem putF_eq {R : Type} (E : Env) (d : Option Tmp) (v : AV) (k : Env → Option R) : putF E d v k = putEK E d v k := by cases d <;> rfl
def applyF {R : Type} (st : AS) (e : Ent) (k : AS → Option R) : Option R := @List.rec (Nat × Option Row) (fun _ => Nat → AS → Ent → (AS → Option R) → Option R)
  (fun nx st e k => @Nat.rec (fun _ => AS → Ent → (AS → Option R) → Option R) (fun st _ k => k st) (fun _ _ st e k => applyK st e k) nx st e k) (fun _ _ _ _ st e k => applyK st e k) e.eff e.nx st e k
theorem applyF_eq {R : Type} (st : AS) (e : Ent) (k : AS → Option R) : applyF st e k = applyK st e k := by
  obtain ⟨v, eff, nx, rd⟩ := e
  cases eff with
  | cons _ _ => rfl
  | nil =>
    cases nx with
    | succ _ => rfl
    | zero =>
      unfold applyK
      rw [natK_eq]
      show k st = setRowsK st.mem [] fun m => k ⟨st.next + 0, m⟩
      cases st with
      | mk n m => cases m <;> rfl
def wantF {R : Type} (ops : Array Oper) (o : Oper) (E : Env) (kw ks : Env → Option R) : Option R := @Option.rec (Nat × Bool) (fun _ => Array Oper → Oper → Env → (Env → Option R) → (Env → Option R) → Option R) (fun _ _ E kw _ => kw E) (fun _ ops o E kw ks => wantE ops o E kw ks) o.guard ops o E kw ks
theorem wantF_eq {R : Type} (ops : Array Oper) (o : Oper) (E : Env) (kw ks : Env → Option R) : wantF ops o E kw ks = wantE ops o E kw ks := by
  unfold wantF
  cases h : o.guard with
  | none => unfold wantE; rw [h]
  | some p => rfl

/-! ### statements -/
abbrev OpsTy := (R : Type) → Program → CallT R → Array Oper → Env → AS → (Env → AS → Option R) → Option R
def stepF {R : Type} (P : Program) (call : CallT R) (o : Oper) (E : Env) (st : AS) (k : Env → AS → Option R) (c : Option (FuncId × List AV)) : Option R := @Option.rec (FuncId × List AV) (fun _ => Program → CallT R → Oper → Env → AS → (Env → AS → Option R) → Option R)
  (fun P _ o E st k => optT o.op R P o E st fun e => applyF st e fun st => putF E o.dst e.v fun E => k E st) (fun p _ call o E st k => @Prod.rec FuncId (List AV) (fun _ => CallT R → Oper → Env → AS → (Env → AS → Option R) → Option R) (fun g vs call o E st k => call g vs st fun v st => putF E o.dst v fun E => k E st) p call o E st k) c P call o E st k
def opsF (l : List Oper) : OpsTy := @List.rec Oper (fun _ => OpsTy) (fun _ _ _ _ E st k => k E st)
  (fun o _ ih R P call ops E st k => wantF ops o E (fun E => stepF P call o E st (fun E st => ih R P call ops E st k) (calT o.op P E)) (fun E => putF E o.dst (.raw undef) fun E => ih R P call ops E st k)) l
theorem opsF_eq {R : Type} (P : Program) (call : CallT R) (ops : Array Oper) : ∀ (l : List Oper) (E : Env) (st : AS) (k : Env → AS → Option R), opsF l R P call ops E st k = opsE P call ops l E st k
  | [], E, st, k => rfl
  | o :: l, E, st, k => by
    show wantF ops o E (fun E => stepF P call o E st (fun E st => opsF l R P call ops E st k) (calT o.op P E)) (fun E => putF E o.dst (.raw undef) fun E => opsF l R P call ops E st k) = _
    simp only [opsE, wantF_eq, putF_eq, opsF_eq P call ops l, calT_eq]
    congr 1
    funext E
    cases callee P o E with
    | none =>
      show (optT o.op R P o E st fun e => applyF st e fun st => putF E o.dst e.v fun E => opsE P call ops l E st k) = _
      simp only [optT_eq, applyF_eq, putF_eq]
    | some p =>
      obtain ⟨g, vs⟩ := p
      show (call g vs st fun v st => putF E o.dst v fun E => opsE P call ops l E st k) = _
      simp only [putF_eq]
abbrev RegsTy := (R : Type) → Program → CallD R → Array Oper → Env → AS → (Env → AS → List Ent → Option R) → Option R
def stepD {R : Type} (P : Program) (call : CallD R) (o : Oper) (E : Env) (st : AS) (k : Env → AS → Ent → Option R) (c : Option (FuncId × List AV)) : Option R := @Option.rec (FuncId × List AV) (fun _ => Program → CallD R → Oper → Env → AS → (Env → AS → Ent → Option R) → Option R)
  (fun P _ o E st k => optT o.op R P o E st fun e => applyF st e fun st => putF E o.dst e.v fun E => k E st e) (fun p _ call o E st k => @Prod.rec FuncId (List AV) (fun _ => CallD R → Oper → Env → AS → (Env → AS → Ent → Option R) → Option R) (fun g vs call o E st k => call g vs st fun e => applyF st e fun st => putF E o.dst e.v fun E => k E st e) p call o E st k) c P call o E st k
def regsF (l : List Oper) : RegsTy := @List.rec Oper (fun _ => RegsTy) (fun _ _ _ _ E st k => k E st [])
  (fun o _ ih R P call ops E st k => wantF ops o E (fun E => stepD P call o E st (fun E st e => ih R P call ops E st fun E' st' es => k E' st' (e :: es)) (calT o.op P E)) (fun E => putF E o.dst (.raw undef) fun E => ih R P call ops E st fun E' st' es => k E' st' (ent0 :: es))) l
theorem regsF_eq {R : Type} (P : Program) (call : CallD R) (ops : Array Oper) : ∀ (l : List Oper) (E : Env) (st : AS) (k : Env → AS → List Ent → Option R), regsF l R P call ops E st k = regsE P call ops l E st k
  | [], E, st, k => rfl
  | o :: l, E, st, k => by
    show wantF ops o E (fun E => stepD P call o E st (fun E st e => regsF l R P call ops E st fun E' st' es => k E' st' (e :: es)) (calT o.op P E)) (fun E => putF E o.dst (.raw undef) fun E => regsF l R P call ops E st fun E' st' es => k E' st' (ent0 :: es)) = _
    simp only [regsE, wantF_eq, putF_eq, regsF_eq P call ops l, calT_eq]
    congr 1
    funext E
    cases callee P o E with
    | none =>
      show (optT o.op R P o E st fun e => applyF st e fun st => putF E o.dst e.v fun E => regsE P call ops l E st fun E' st' es => k E' st' (e :: es)) = _
      simp only [optT_eq, applyF_eq, putF_eq]
    | some p =>
      obtain ⟨g, vs⟩ := p
      show (call g vs st fun e => applyF st e fun st => putF E o.dst e.v fun E => regsE P call ops l E st fun E' st' es => k E' st' (e :: es)) = _
      simp only [applyF_eq, putF_eq]
def regF (P : Program) (R : Type) : Reg R := fun call ops E st k =>
  regsF ops.toList R P call ops E st fun E' st' es => bif ordOk 0 [] [] ops.toList es then k E' st' else none
theorem regF_eq (P : Program) : regF P = regB P := by
  funext R call ops E st k
  exact regsF_eq P call ops _ _ _ _

/-! ### code -/
abbrev RunT := (R : Type) → FuncId → Code → Env → AS → (EK → Env → AS → Option R) → Option R
abbrev RegT := (R : Type) → Reg R
abbrev CodeTy := RunT → Program → KT → LT → RegT → (R : Type) → FuncId → Env → AS → (EK → Env → AS → Option R) → Option R
def callX (run : RunT) (P : Program) (K : KT) (R : Type) : CallT R := fun h vs st k =>
  match K R h vs st with
  | some F => F fun e => applyK st e fun st' => k e.v st'
  | none =>
    match P.funcs[h]? with
    | none => none
    | some fn =>
      match fn.body with
      | none => none
      | some body => bif leafB body then argsK (Env.mk (Nat.log2 fn.ntmps + 1)) 0 vs fun E => run R h body E st (finE P fn k)
        else match namesL (namesN 6) vs [] with
          | [] => bif bnds (bndN 6 st.next) vs then argsK (Env.mk (Nat.log2 fn.ntmps + 1)) 0 vs fun E => run R h body E ⟨st.next, []⟩ (finE P fn (gcK [] st.mem k)) else none
          | n :: ns => bif longer 24 st.mem then partT st.mem (n :: ns) fun acc rest => bif bnds (bndN 6 st.next) vs && accOk st.next acc then
              argsK (Env.mk (Nat.log2 fn.ntmps + 1)) 0 vs fun E => run R h body E ⟨st.next, acc⟩ (finE P fn (gcK acc rest k)) else none
            else argsK (Env.mk (Nat.log2 fn.ntmps + 1)) 0 vs fun E => run R h body E st (finE P fn k)
def callDX (run : RunT) (P : Program) (K : KT) (R : Type) : CallD R := fun h vs st k =>
  match K R h vs st with
  | some F => F k
  | none =>
      match P.funcs[h]? with
      | none => none
      | some fn =>
        match fn.body with
        | none => none
        | some body => partT st.mem (namesL (namesN 6) vs []) fun acc _ => bif bnds (bndN 6 st.next) vs && accOk st.next acc then
            argsK (Env.mk (Nat.log2 fn.ntmps + 1)) 0 vs fun E => run R h body E ⟨st.next, acc⟩ (finE P fn (gcK acc [] (entOf st.next acc k)))
          else none
def regionX (run : RunT) (P : Program) (K : KT) (reg : RegT) (R : Type) (ops : Array Oper) (E : Env) (st : AS) (k : EK → Env → AS → Option R) (draw : Bool) : Option R :=
  bif draw then reg R (callDX run P K R) ops E st fun E st => k .normal E st else opsF ops.toList R P (callX run P K R) ops E st fun E st => k .normal E st
def seqE {R : Type} (run : RunT) (g : FuncId) (y : Code) (k : EK → Env → AS → Option R) (e : EK) (E : Env) (st : AS) : Option R :=
  match e with
  | .normal => run R g y E st k
  | .exit i => k (.exit i) E st
  | .ret => k .ret E st
def seqX (run : RunT) (L : LT) (R : Type) (g : FuncId) (x y : Code) (E : Env) (st : AS) (k : EK → Env → AS → Option R) : Option R :=
  match headL L R g y E st with
  | some F => F k
  | none => run R g x E st (seqE run g y k)
def condX (run : RunT) (R : Type) (g : FuncId) (c : Operand) (x y : Code) (E : Env) (st : AS) (k : EK → Env → AS → Option R) : Option R :=
  match c with
  | .tmp t =>
    match E.get t with
    | .bool b => bif b then E.setK t (.bool true) fun E => run R g x E st k else E.setK t (.bool false) fun E => run R g y E st k
    | _ => none
  | .const (.bool b) => bif b then run R g x E st k else run R g y E st k
  | _ => none
def blockE {R : Type} (id : Nat) (k : EK → Env → AS → Option R) (e : EK) (E : Env) (st : AS) : Option R :=
  match e with
  | .exit i => bif Nat.beq i id then k .normal E st else k (.exit i) E st
  | .normal => k .normal E st
  | .ret => k .ret E st
def blockX (run : RunT) (L : LT) (R : Type) (g : FuncId) (id : Nat) (body : Code) (E : Env) (st : AS) (k : EK → Env → AS → Option R) : Option R :=
  match L R g (2 * id) E st with
  | some F => F k
  | none => run R g body E st (blockE id k)
def codeT (c : Code) : CodeTy := @Code.rec (fun _ => CodeTy)
  (fun _ _ _ _ _ _ _ E st k => k .normal E st)
  (fun _ ops draw run P K _ reg R _ E st k => regionX run P K reg R ops E st k draw)
  (fun a b _ _ run _ _ L _ R g E st k => seqX run L R g a b E st k)
  (fun c a b _ _ run _ _ _ _ R g E st k => condX run R g c a b E st k)
  (fun id body _ run _ _ L _ R g E st k => blockX run L R g id body E st k)
  (fun body _ run _ _ _ _ R g E st k => run R g body E st (seqE run g (.loop body) k))
  (fun _ _ _ _ _ _ _ _ _ _ _ _ _ _ _ _ => none)
  (fun id _ _ _ _ _ _ _ E st k => k (.exit id) E st)
  (fun body _ run _ _ _ _ R g E st k => run R g body E st k)
  (fun _ _ _ _ _ _ _ _ E st k => k .normal E st)
  (fun _ _ _ _ _ _ _ _ _ _ _ => none)
  (fun _ _ _ _ _ _ _ E st k => k .ret E st)
  (fun _ _ _ _ _ _ _ _ _ _ _ => none)
  c
def evF (fuel : Nat) : Program → KT → LT → RegT → RunT := @Nat.rec (fun _ => Program → KT → LT → RegT → RunT) (fun _ _ _ _ _ _ _ _ _ _ => none) (fun _ ih P K L reg R g c E st k => codeT c (ih P K L reg) P K L reg R g E st k) fuel
theorem evF_eq (P : Program) (K : KT) (L : LT) (reg : RegT) : ∀ (fuel : Nat) (R : Type) (g : FuncId) (c : Code) (E : Env) (st : AS) (k : EK → Env → AS → Option R), evF fuel P K L reg R g c E st k = evCode P K L reg fuel g c E st k
  | 0, _, _, _, _, _, _ => rfl
  | fuel + 1, R, g, c, E, st, k => by
    have ih : evF fuel P K L reg = fun R g c E st k => evCode P K L reg fuel g c E st k := by
      funext R g c E st k
      exact evF_eq P K L reg fuel R g c E st k
    show codeT c (evF fuel P K L reg) P K L reg R g E st k = _
    rw [ih]
    have hs : ∀ (y : Code), seqE (R := R) (fun R g c E st k => evCode P K L reg fuel g c E st k) g y k = fun e E st => match e with | .normal => evCode P K L reg fuel g y E st k | .exit i => k (.exit i) E st | .ret => k .ret E st := fun y => by
      funext e E st
      cases e <;> rfl
    cases c with
    | region id ops draw =>
      simp only [evCode]
      show regionX _ P K reg R ops E st k draw = _
      unfold regionX
      cases draw with
      | true => rfl
      | false =>
        simp only [cond_false, opsF_eq]
        rfl
    | seq a b =>
      simp only [evCode]
      show seqX _ L R g a b E st k = _
      unfold seqX
      rw [hs]
      rfl
    | cond c a b => rfl
    | block id body =>
      have hb : blockE (R := R) id k = fun e E st => match e with | .exit i => bif Nat.beq i id then k .normal E st else k (.exit i) E st | .normal => k .normal E st | .ret => k .ret E st := by
        funext e E st
        cases e <;> rfl
      simp only [evCode]
      show blockX (fun R g c E st k => evCode P K L reg fuel g c E st k) L R g id body E st k = _
      unfold blockX
      rw [hb]
      rfl
    | loop body =>
      simp only [evCode]
      show evCode P K L reg fuel g body E st (seqE _ g (.loop body) k) = _
      rw [hs]
      rfl
    | _ => rfl
/-- A function. -/
def evFnF (P : Program) (K : KT) (L : LT) (fuel : Nat) (g : FuncId) (vs : List AV) (st : AS) {R : Type} (k : AV → AS → Option R) : Option R :=
  match P.funcs[g]? with
  | none => none
  | some fn =>
    match fn.body with
    | none => none
    | some body => argsK (Env.mk (Nat.log2 fn.ntmps + 1)) 0 vs fun E => evF fuel P K L (regF P) R g body E st (finE P fn k)
theorem evFnF_eq (P : Program) (K : KT) (L : LT) (fuel : Nat) (g : FuncId) (vs : List AV) (st : AS) {R : Type} (k : AV → AS → Option R) : evFnF P K L fuel g vs st k = evFn P K L (regB P) fuel g vs st k := by
  unfold evFnF evFn
  rw [regF_eq]
  cases P.funcs[g]? with
  | none => rfl
  | some fn =>
    dsimp only
    cases fn.body with
    | none => rfl
    | some body =>
      dsimp only
      congr 1
      funext E
      exact evF_eq P K L _ fuel R g body E st _
/-- A number for a run's answer: the kernel brings it to its end straight on. -/
def isT (o : Option AV) : Nat :=
  match o with
  | some (.bool true) => 1
  | _ => 0
theorem isT_eq {o : Option AV} (h : Nat.beq (isT o) 1 = true) : o = some (.bool true) := by
  unfold isT at h
  split at h
  · rfl
  · cases h
end
end Go.Sv
