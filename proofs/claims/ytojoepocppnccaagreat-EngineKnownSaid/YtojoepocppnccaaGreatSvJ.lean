/- A second evaluator for the model's code: statements that draw their order: how they are run, what is asked of them. -/
import Derived.Test.YtojoepocppnccaaGreatSvI
namespace Go.Sv
noncomputable section
open Go.RowKit
variable {P : Program}

/-! ### what is asked of a program's statements that draw their order, once -/
/-- Each operation's slot is its own; what it looks at is written by operations that it waits for, or that wait for it. -/
def sameDst (x y : Option Tmp) : Bool :=
  match x, y with
  | some a, some b => Nat.beq a b
  | _, _ => false
def dstFrom (l : List Oper) (t : Tmp) : Bool := l.any fun o => sameDst o.dst (some t)
def waits (o : Oper) (j : Nat) : Bool := o.after.toList.any fun e => Region.binds .any e && Nat.beq e.on j
def waitsAll (o : Oper) (t : Tmp) : Nat → List Oper → Bool
  | _, [] => true
  | j, p :: ps => (bif sameDst p.dst (some t) then waits o j else true) && waitsAll o t (j + 1) ps
def laterAll (i : Nat) (t : Tmp) : List Oper → Bool
  | [] => true
  | p :: ps => (bif sameDst p.dst (some t) then waits p i else true) && laterAll i t ps
def okFrom (ops : Array Oper) (sz : Nat) : Nat → List Oper → List Oper → Bool
  | _, _, [] => true
  | i, done, o :: rest =>
    (match o.dst with | none => true | some d => Nat.blt d sz && !(dstFrom done d) ) &&
    ((o.looksAt ops).all (fun t => waitsAll o t 0 done && (laterAll i t rest && !(sameDst o.dst (some t)))) &&
    ((o.after.toList.all fun e => !(Region.binds .any e) || Nat.blt e.on i) && okFrom ops sz (i + 1) (done ++ [o]) rest))
def RegsOk (P : Program) : Prop := ∀ (g : FuncId) (id : Nat) (ops : Array Oper), (id, ops) ∈ regions (bodyOf P g) → okFrom ops (szOf P g) 0 [] ops.toList = true

theorem sameDst_iff {x : Option Tmp} {t : Tmp} : sameDst x (some t) = true ↔ x = some t := by
  cases x with
  | none => simp [sameDst]
  | some d =>
    simp only [sameDst, Option.some.injEq]
    exact ⟨Nat.eq_of_beq_eq_true, fun h => by subst h; simp⟩
theorem dstFrom_false {l : List Oper} {t : Tmp} (h : dstFrom l t = false) : ∀ o ∈ l, o.dst ≠ some t := fun o ho hd => by
  unfold dstFrom at h
  rw [List.any_eq_false] at h
  exact h o ho (sameDst_iff.2 hd)
theorem waitsAll_spec {o : Oper} {t : Tmp} : ∀ (l : List Oper) (j : Nat), waitsAll o t j l = true → ∀ q p, l[q]? = some p → p.dst = some t → waits o (j + q) = true
  | [], _, _, q, p, hq, _ => by simp at hq
  | p0 :: l, j, h, q, p, hq, hd => by
    simp only [waitsAll, Bool.and_eq_true] at h
    cases q with
    | zero =>
      simp at hq; subst hq
      have := h.1
      rw [sameDst_iff.2 hd] at this
      exact this
    | succ q =>
      have := waitsAll_spec l (j + 1) h.2 q p (by simpa using hq) hd
      rw [show j + (q + 1) = j + 1 + q from by omega]; exact this
theorem laterAll_spec {i : Nat} {t : Tmp} : ∀ (l : List Oper), laterAll i t l = true → ∀ p ∈ l, p.dst = some t → waits p i = true
  | [], _, p, hp, _ => by cases hp
  | p0 :: l, h, p, hp, hd => by
    simp only [laterAll, Bool.and_eq_true] at h
    rcases List.mem_cons.1 hp with e | e
    · subst e
      have := h.1
      rw [sameDst_iff.2 hd] at this
      exact this
    · exact laterAll_spec l h.2 p e hd
structure OkOps (ops : Array Oper) (sz : Nat) : Prop where
  dst : ∀ (i : Nat) (o : Oper), ops[i]? = some o → ∀ d, o.dst = some d → d < sz
  uniq : ∀ (i j : Nat) (o p : Oper), ops[i]? = some o → ops[j]? = some p → ∀ d, o.dst = some d → p.dst = some d → i = j
  looks : ∀ (i : Nat) (o : Oper), ops[i]? = some o → ∀ t ∈ o.looksAt ops, ∀ (j : Nat) (p : Oper), ops[j]? = some p → p.dst = some t → (j < i ∧ ∃ e ∈ o.after, Region.binds .any e = true ∧ e.on = j) ∨ (i < j ∧ ∃ e ∈ p.after, Region.binds .any e = true ∧ e.on = i)
  edges : ∀ (i : Nat) (o : Oper), ops[i]? = some o → ∀ e ∈ o.after, Region.binds .any e = true → e.on < i
theorem okFrom_spec {ops : Array Oper} {sz : Nat} : ∀ (rest done : List Oper) (i : Nat), i = done.length → okFrom ops sz i done rest = true →
    ∀ (q : Nat) (o : Oper), rest[q]? = some o →
      (∀ d, o.dst = some d → d < sz ∧ ∀ p ∈ done ++ rest.take q, p.dst ≠ some d) ∧
      (∀ t ∈ o.looksAt ops, (∀ j p, (done ++ rest.take q)[j]? = some p → p.dst = some t → waits o j = true) ∧ (∀ p ∈ rest.drop (q + 1), p.dst = some t → waits p (i + q) = true) ∧ o.dst ≠ some t) ∧
      (∀ e ∈ o.after, Region.binds .any e = true → e.on < i + q)
  | [], _, _, _, _, q, o, hq => by simp at hq
  | o0 :: rest, done, i, hi, h, q, o, hq => by
    simp only [okFrom, Bool.and_eq_true, List.all_eq_true] at h
    obtain ⟨h1, h2, h3, h4⟩ := h
    cases q with
    | zero =>
      simp at hq; subst hq
      refine ⟨fun d hd => ?_, fun t ht => ?_, fun e he hb => ?_⟩
      · rw [hd] at h1
        simp only [Bool.and_eq_true, Bool.not_eq_true'] at h1
        refine ⟨by simpa [Nat.blt_eq] using h1.1, ?_⟩
        simpa using dstFrom_false h1.2
      · have := h2 t ht
        simp only [Bool.not_eq_true'] at this
        refine ⟨fun j p hj hd => ?_, fun p hp hd => ?_, fun hd => ?_⟩
        · have := waitsAll_spec done 0 this.1 j p (by simpa using hj) hd
          simpa using this
        · exact laterAll_spec rest this.2.1 p (by simpa using hp) hd
        · rw [sameDst_iff.2 hd] at this; exact absurd this.2.2 (by simp)
      · have := h3 e (by simpa using he)
        rw [hb] at this
        simpa [Nat.blt_eq] using this
    | succ q =>
      have ih := okFrom_spec rest (done ++ [o0]) (i + 1) (by simp [hi]) h4 q o (by simpa using hq)
      obtain ⟨i1, i2, i3⟩ := ih
      refine ⟨fun d hd => ?_, fun t ht => ?_, fun e he hb => ?_⟩
      · obtain ⟨a, b⟩ := i1 d hd
        exact ⟨a, by simpa using b⟩
      · obtain ⟨a, b, c⟩ := i2 t ht
        refine ⟨by simpa using a, fun p hp hd => ?_, c⟩
        have := b p (by simpa using hp) hd
        rw [show i + (q + 1) = i + 1 + q from by omega]; exact this
      · have := i3 e he hb; omega
theorem okOps {ops : Array Oper} {sz : Nat} (h : okFrom ops sz 0 [] ops.toList = true) : OkOps ops sz := by
  have hs := okFrom_spec ops.toList [] 0 rfl h
  have hat : ∀ (i : Nat) (o : Oper), ops[i]? = some o → ops.toList[i]? = some o := fun i o ho => by simpa using ho
  have earlier : ∀ (i j : Nat) (p : Oper), ops[j]? = some p → j < i → p ∈ ops.toList.take i := fun i j p hp hlt => by
    refine List.mem_of_getElem? (i := j) ?_
    rw [List.getElem?_take, if_pos hlt]; exact hat j p hp
  have later : ∀ (i j : Nat) (p : Oper), ops[j]? = some p → i ≤ j → p ∈ ops.toList.drop i := fun i j p hp hle => by
    refine List.mem_of_getElem? (i := j - i) ?_
    rw [List.getElem?_drop, show i + (j - i) = j from by omega]; exact hat j p hp
  refine ⟨fun i o ho d hd => ((hs i o (hat i o ho)).1 d hd).1, fun i j o p ho hp d hd hd' => ?_, fun i o ho t ht j p hp hd => ?_, fun i o ho e he hb => by simpa using (hs i o (hat i o ho)).2.2 e he hb⟩
  · rcases Nat.lt_trichotomy i j with hlt | heq | hlt
    · exact absurd hd (((hs j p (hat j p hp)).1 d hd').2 o (by simpa using earlier j i o ho hlt))
    · exact heq
    · exact absurd hd' (((hs i o (hat i o ho)).1 d hd).2 p (by simpa using earlier i j p hp hlt))
  · obtain ⟨a, b, c⟩ := (hs i o (hat i o ho)).2.1 t ht
    rcases Nat.lt_trichotomy i j with hlt | heq | hlt
    · refine .inr ⟨hlt, ?_⟩
      have := b p (later (i + 1) j p hp hlt) hd
      rw [Nat.zero_add] at this
      unfold waits at this
      rw [List.any_eq_true] at this
      obtain ⟨e, he, hb⟩ := this
      simp only [Bool.and_eq_true] at hb
      exact ⟨e, by simpa using he, hb.1, Nat.eq_of_beq_eq_true hb.2⟩
    · subst heq
      rw [ho] at hp; obtain rfl := Option.some.inj hp
      exact absurd hd c
    refine .inl ⟨hlt, ?_⟩
    have := a j p (by rw [List.nil_append, List.getElem?_take, if_pos hlt]; exact hat j p hp) hd
    unfold waits at this
    rw [List.any_eq_true] at this
    obtain ⟨e, he, hb⟩ := this
    simp only [Bool.and_eq_true] at hb
    exact ⟨e, by simpa using he, hb.1, Nat.eq_of_beq_eq_true hb.2⟩

/-! ### which operations stand behind which -/
def nthD : List Nat → Nat → Nat
  | [], _ => 0
  | x :: xs, n => match n with
    | 0 => x
    | n + 1 => nthD xs n
def maskE (ms : List Nat) (i : Nat) : List Edge → Nat → Nat
  | [], acc => acc
  | d :: ds, acc => maskE ms i ds (bif Region.binds .any d && Nat.blt d.on i then Nat.lor (Nat.lor acc (nthD ms (i - 1 - d.on))) (Nat.pow 2 d.on) else acc)
def meets (a b : List Nat) : Bool := a.any fun x => b.any fun y => Nat.beq x y
def firsts : List (Nat × Option Row) → List Nat
  | [] => []
  | p :: l => p.1 :: firsts l
def clash (wr rd wr' rd' : List Nat) : Bool := meets wr rd' || (meets wr wr' || meets rd wr')
def natB (n : Nat) (k : Nat → Bool) : Bool :=
  match n with
  | 0 => k 0
  | m + 1 => k (m + 1)
theorem natB_eq (n : Nat) (k : Nat → Bool) : natB n k = k n := by cases n <;> rfl
def clashOk (m : Nat) (wr rd : List Nat) : List (Nat × List Nat × List Nat) → Bool
  | [] => true
  | (j, wr', rd') :: l => (bif clash wr' rd' wr rd then Nat.testBit m j else true) && clashOk m wr rd l
def isNil : List Nat → Bool
  | [] => true
  | _ => false
/-- Any two operations that meet in the memory stand in an order. -/
def ordOk : Nat → List Nat → List (Nat × List Nat × List Nat) → List Oper → List Ent → Bool
  | i, ms, acts, o :: os, e :: es =>
    natB (maskE ms i o.after.toList 0) fun m =>
      bif isNil (firsts e.eff) && isNil e.rd then ordOk (i + 1) (m :: ms) acts os es
      else clashOk m (firsts e.eff) e.rd acts && ordOk (i + 1) (m :: ms) ((i, firsts e.eff, e.rd) :: acts) os es
  | _, _, _, _, _ => true

section
variable {R : Type} (P)
def ent0 : Ent := ⟨.raw undef, [], 0, []⟩
def regsE (call : CallD R) (ops : Array Oper) : List Oper → Env → AS → (Env → AS → List Ent → Option R) → Option R
  | [], E, st, k => k E st []
  | o :: rest, E, st, k =>
    wantE ops o E (fun E =>
      match callee P o E with
      | some (g, vs) => call g vs st fun e => applyK st e fun st => putEK E o.dst e.v fun E => regsE call ops rest E st fun E' st' es => k E' st' (e :: es)
      | none => opE P o E st fun e => applyK st e fun st => putEK E o.dst e.v fun E => regsE call ops rest E st fun E' st' es => k E' st' (e :: es))
      (fun E => putEK E o.dst (.raw undef) fun E => regsE call ops rest E st fun E' st' es => k E' st' (ent0 :: es))
end
def regB (P : Program) (R : Type) : Reg R := fun call ops E st k =>
  regsE P call ops ops.toList E st fun E' st' es => bif ordOk 0 [] [] ops.toList es then k E' st' else none

/-! ### what the order's check says -/
def Closed (ops : Array Oper) (S : Nat → Prop) : Prop := ∀ i o, ops[i]? = some o → S i → ∀ d ∈ o.after.toList, Region.binds .any d = true → S d.on
def bitsIn (m : Nat) (S : Nat → Prop) : Prop := ∀ j, Nat.testBit m j = true → S j
theorem maskE_spec {ms : List Nat} {i : Nat} {S : Nat → Prop} : ∀ (ds : List Edge) (acc : Nat), bitsIn acc S → (∀ d ∈ ds, Region.binds .any d = true → S d.on) → (∀ x, x < i → S x → bitsIn (nthD ms (i - 1 - x)) S) → bitsIn (maskE ms i ds acc) S
  | [], acc, h, _, _ => h
  | d :: ds, acc, h, hd, hm => by
    simp only [maskE]
    refine maskE_spec ds _ ?_ (fun d' h' => hd d' (List.mem_cons_of_mem _ h')) hm
    cases hb : Region.binds .any d && Nat.blt d.on i with
    | false => exact h
    | true =>
      simp only [Bool.and_eq_true, Nat.blt_eq] at hb
      have hS := hd d (List.mem_cons_self ..) hb.1
      intro j hj
      simp only [cond_true] at hj
      have hj' : Nat.testBit ((acc ||| nthD ms (i - 1 - d.on)) ||| 2 ^ d.on) j = true := hj
      rw [Nat.testBit_or, Nat.testBit_or, Bool.or_eq_true, Bool.or_eq_true, Nat.testBit_two_pow] at hj'
      rcases hj' with (h1 | h1) | h1
      · exact h j h1
      · exact hm d.on hb.2 hS j h1
      · have := of_decide_eq_true h1
        subst this; exact hS
theorem meets_of {a b : List Nat} {n : Nat} (ha : n ∈ a) (hb : n ∈ b) : meets a b = true := by
  unfold meets
  rw [List.any_eq_true]
  refine ⟨n, ha, ?_⟩
  rw [List.any_eq_true]
  exact ⟨n, hb, by simp⟩
theorem clashOk_spec {m : Nat} {wr rd : List Nat} : ∀ (l : List (Nat × List Nat × List Nat)), clashOk m wr rd l = true → ∀ j wr' rd', (j, wr', rd') ∈ l → clash wr' rd' wr rd = true → Nat.testBit m j = true
  | [], _, j, wr', rd', h, _ => by cases h
  | (j0, wr0, rd0) :: l, h, j, wr', rd', hm, hc => by
    simp only [clashOk, Bool.and_eq_true] at h
    rcases List.mem_cons.1 hm with e | e
    · simp only [Prod.mk.injEq] at e
      obtain ⟨rfl, rfl, rfl⟩ := e
      have := h.1
      rw [hc] at this
      exact this
    · exact clashOk_spec l h.2 j wr' rd' e hc
theorem isNil_iff {l : List Nat} : isNil l = true ↔ l = [] := by cases l <;> simp [isNil]
theorem ordOk_spec {ops : Array Oper} {all : List Ent} : ∀ (os : List Oper) (es : List Ent) (i : Nat) (ms : List Nat) (acts : List (Nat × List Nat × List Nat)), ordOk i ms acts os es = true →
    (∀ q, os[q]? = ops[i + q]?) → (∀ q, es[q]? = all[i + q]?) → es.length = os.length →
    (∀ S, Closed ops S → ∀ x, x < i → S x → bitsIn (nthD ms (i - 1 - x)) S) →
    (∀ j e, j < i → all[j]? = some e → (firsts e.eff = [] ∧ e.rd = []) ∨ (j, firsts e.eff, e.rd) ∈ acts) →
    ∀ x o e, i ≤ x → ops[x]? = some o → all[x]? = some e → ∀ j e', j < x → all[j]? = some e' → clash (firsts e'.eff) e'.rd (firsts e.eff) e.rd = true →
      ∀ S, Closed ops S → (∀ d ∈ o.after.toList, Region.binds .any d = true → S d.on) → S j
  | [], es, i, ms, acts, _, hos, hes, hlen, hms, hacts, x, o, e, hix, ho, he, j, e', hj, he', hc, S, hS, hd => by
    have := hos (x - i)
    rw [show i + (x - i) = x from by omega, ho] at this
    simp at this
  | o0 :: os, [], i, ms, acts, _, hos, hes, hlen, hms, hacts, x, o, e, hix, ho, he, j, e', hj, he', hc, S, hS, hd => by simp at hlen
  | o0 :: os, e0 :: es, i, ms, acts, h, hos, hes, hlen, hms, hacts, x, o, e, hix, ho, he, j, e', hj, he', hc, S, hS, hd => by
    simp only [ordOk, natB_eq] at h
    have ho0 : ops[i]? = some o0 := by have := hos 0; simpa using this.symm
    have he0 : all[i]? = some e0 := by have := hes 0; simpa using this.symm
    have hmask : ∀ S, Closed ops S → (∀ d ∈ o0.after.toList, Region.binds .any d = true → S d.on) → bitsIn (maskE ms i o0.after.toList 0) S := fun S hS hd =>
      maskE_spec _ _ (fun j hj => by simp at hj) hd (hms S hS)
    have hms' : ∀ S, Closed ops S → ∀ x, x < i + 1 → S x → bitsIn (nthD (maskE ms i o0.after.toList 0 :: ms) (i + 1 - 1 - x)) S := fun S hS x hx hSx => by
      by_cases e : x = i
      · subst e
        rw [show x + 1 - 1 - x = 0 from by omega]
        exact hmask S hS (hS x o0 ho0 hSx)
      · rw [show i + 1 - 1 - x = (i - 1 - x) + 1 from by omega]
        exact hms S hS x (by omega) hSx
    have hos' : ∀ q, os[q]? = ops[i + 1 + q]? := fun q => by have := hos (q + 1); rw [show i + (q + 1) = i + 1 + q from by omega] at this; simpa using this
    have hes' : ∀ q, es[q]? = all[i + 1 + q]? := fun q => by have := hes (q + 1); rw [show i + (q + 1) = i + 1 + q from by omega] at this; simpa using this
    have hlen' : es.length = os.length := by simpa using hlen
    cases hn : isNil (firsts e0.eff) && isNil e0.rd with
    | true =>
      rw [hn, cond_true] at h
      simp only [Bool.and_eq_true, isNil_iff] at hn
      by_cases hx : x = i
      · subst hx
        rw [he0] at he; obtain rfl := Option.some.inj he
        rw [hn.1, hn.2] at hc
        exfalso
        have h1 : ∀ l : List Nat, meets l [] = false := fun l => by unfold meets; rw [List.any_eq_false]; simp
        simp only [clash, h1, Bool.or_false] at hc
        cases hc
      · refine ordOk_spec os es (i + 1) _ acts h hos' hes' hlen' hms' (fun j e hj hje => ?_) x o e (by omega) ho he j e' hj he' hc S hS hd
        by_cases hji : j = i
        · subst hji
          rw [he0] at hje; obtain rfl := Option.some.inj hje
          exact .inl hn
        · exact hacts j e (by omega) hje
    | false =>
      rw [hn, cond_false, Bool.and_eq_true] at h
      by_cases hx : x = i
      · subst hx
        rw [he0] at he; obtain rfl := Option.some.inj he
        rw [ho0] at ho; obtain rfl := Option.some.inj ho
        rcases hacts j e' hj he' with ⟨h1, h2⟩ | h1
        · exfalso
          rw [h1, h2] at hc
          cases hc
        · exact hmask S hS hd j (clashOk_spec _ h.1 j _ _ h1 hc)
      · refine ordOk_spec os es (i + 1) _ _ h.2 hos' hes' hlen' hms' (fun j e hj hje => ?_) x o e (by omega) ho he j e' hj he' hc S hS hd
        by_cases hji : j = i
        · subst hji
          rw [he0] at hje; obtain rfl := Option.some.inj hje
          exact .inr (List.mem_cons_self ..)
        · rcases hacts j e (by omega) hje with h | h
          · exact .inl h
          · exact .inr (List.mem_cons_of_mem _ h)
end
end Go.Sv
