/- The evaluator and the contracts that the walk leans on, part Bj: SvO2, CG, CH, CI. -/
import Derived.Test.YtmegbaeclpoidaaBi
import Derived.ChangeArms
namespace Go.Sv
open Go.RowKit Go.WideShapes Go.ChangeShapes

/-- The shape of a value's cells. -/
inductive Sh
  | bool
  | int (k : IntKind)
  | str
  | pairs
  | arr (n w : Nat) (ks : List Sh)

inductive Fit (w : World) : List Sh → List Value → Prop
  | nil : Fit w [] []
  | bool {ks : List Sh} {cs : List Value} (b : Bool) : Fit w ks cs → Fit w (.bool :: ks) (.bool b :: cs)
  | int {ks : List Sh} {cs : List Value} (k : IntKind) (n : Int) : (Lit.int k n).wf = true → Fit w ks cs → Fit w (.int k :: ks) (.int k n :: cs)
  | str {ks : List Sh} {cs : List Value} (s : List UInt8) : Fit w ks cs → Fit w (.str :: ks) (.string ⟨s.toArray⟩ :: cs)
  | pairs {ks : List Sh} {cs : List Value} (v : Value) (xs : List (Int × Int)) : (∀ gh, VRel (kapOf w gh) (.lst 2 (kf xs) xs.length []) v) → (∀ x ∈ xs, (Lit.int .i64 x.1).wf = true ∧ (Lit.int .i64 x.2).wf = true) → xs.length * 16 ≤ reachBytes → Fit w ks cs → Fit w (.pairs :: ks) (v :: cs)
  | arr {ks js : List Sh} {n m : Nat} {zs cs : List Value} : zs.length = n * m → (∀ i, i < n → Fit w js ((zs.drop (i * m)).take m)) → Fit w ks cs → Fit w (.arr n m js :: ks) (zs ++ cs)

theorem Fit.append {w : World} {a b : List Sh} {x y : List Value} (h : Fit w a x) (g : Fit w b y) : Fit w (a ++ b) (x ++ y) := by
  induction h with
  | nil => exact g
  | bool b _ ih => exact .bool b ih
  | int k n hw _ ih => exact .int k n hw ih
  | str s _ ih => exact .str s ih
  | pairs v xs h1 h2 h3 _ ih => exact .pairs v xs h1 h2 h3 ih
  | arr h1 h2 _ _ ih => rw [List.append_assoc]; exact .arr h1 h2 ih

def pairsT (P : Program) (e : TypeId) : Bool :=
  match P.underlying e with
  | some (.struct fs) =>
    match fs.toList with
    | [f0, f1] => Nat.beq (P.cellsOf e) 2 && Nat.beq (P.bytesOf e) 16 && Nat.beq f0.offset 0 && Nat.beq f1.offset 1 && Nat.beq (P.cellsOf f0.type) 1 && Nat.beq (P.cellsOf f1.type) 1 &&
      (match P.underlying f0.type with | some (.int .i64) => true | _ => false) && (match P.underlying f1.type with | some (.int .i64) => true | _ => false)
    | _ => false
  | _ => false
theorem pairsT_facts {P : Program} {e : TypeId} (h : pairsT P e = true) : ∃ f0 f1, P.underlying e = some (.struct #[f0, f1]) ∧ P.cellsOf e = 2 ∧ P.bytesOf e = 16 ∧ f0.offset = 0 ∧ f1.offset = 1 ∧ P.cellsOf f0.type = 1 ∧ P.cellsOf f1.type = 1 ∧ P.underlying f0.type = some (.int .i64) ∧ P.underlying f1.type = some (.int .i64) := by
  unfold pairsT at h
  split at h
  · rename_i fs hu
    split at h
    · rename_i f0 f1 hl
      simp only [Bool.and_eq_true, Nat.beq_eq] at h
      obtain ⟨⟨⟨⟨⟨⟨⟨h1, h2⟩, h3⟩, h4⟩, h5⟩, h6⟩, h7⟩, h8⟩ := h
      refine ⟨f0, f1, ?_, h1, h2, h3, h4, h5, h6, ?_, ?_⟩
      · rw [hu, show fs = #[f0, f1] from by cases fs; simp_all]
      · split at h7
        · assumption
        · cases h7
      · split at h8
        · assumption
        · cases h8
    · cases h
  · cases h

def shFields (P : Program) (rec : TypeId → Option (List Sh)) (tot : Nat) : Nat → List Field → Option (List Sh)
  | off, [] => bif Nat.beq off tot then some [] else none
  | off, f :: fs =>
    match rec f.type with
    | some ks => bif Nat.beq f.offset off then
        match shFields P rec tot (off + P.cellsOf f.type) fs with
        | some r => some (ks ++ r)
        | none => none
      else none
    | none => none
def shape (P : Program) : Nat → TypeId → Option (List Sh)
  | 0, _ => none
  | n + 1, t =>
    match P.underlying t with
    | some .bool => some [.bool]
    | some (.int k) => some [.int k]
    | some .string => some [.str]
    | some (.slice e) => bif pairsT P e then some [.pairs] else none
    | some (.struct fs) => shFields P (shape P n) (P.cellsOf t) 0 fs.toList
    | some (.array m e) => bif Nat.beq (P.cellsOf t) (m * P.cellsOf e) then
        match shape P n e with
        | some ks => some [.arr m (P.cellsOf e) ks]
        | none => none
      else none
    | _ => none

section
variable {H : Type} {enc : TypeId × Value → H} {P : Program} {w : World} {base : Nat} {held : Bool}

theorem weights_all {e : TypeId} : ∀ {ds : List (DataW H)} {j : Nat} {d : DataW H}, ds[j]? = some d → ∀ n ∈ d.weights P e, n ∈ DataW.weightsAll P e ds
  | [], _, _, h, _, _ => by simp at h
  | d0 :: ds, 0, d, h, n, hn => by
    simp only [List.getElem?_cons_zero, Option.some.injEq] at h
    subst h
    simp only [DataW.weightsAll, List.mem_append]
    exact .inl hn
  | d0 :: ds, j + 1, d, h, n, hn => by
    simp only [List.getElem?_cons_succ] at h
    simp only [DataW.weightsAll, List.mem_append]
    exact .inr (weights_all h n hn)

theorem mapM_range {α : Type} {f : Nat → Option α} : ∀ {n : Nat} {xs : List α}, ((List.range n).mapM f) = some xs → xs.length = n ∧ ∀ i, i < n → f i = xs[i]? := fun {n} {xs} h => by
  have key : ∀ (l : List Nat) (xs : List α), l.mapM f = some xs → xs.length = l.length ∧ ∀ (i j : Nat), l[i]? = some j → f j = xs[i]? := fun l => by
    induction l with
    | nil => intro xs h; simp at h; subst h; simp
    | cons a l ih =>
      intro xs h
      rw [List.mapM_cons] at h
      cases h1 : f a with
      | none => rw [h1] at h; cases h
      | some x =>
        rw [h1] at h
        cases h2 : l.mapM f with
        | none => rw [h2] at h; cases h
        | some ys =>
          rw [h2] at h
          cases h
          obtain ⟨h3, h4⟩ := ih ys h2
          refine ⟨by simp [h3], fun i j hj => ?_⟩
          cases i with
          | zero => simp at hj; subst hj; simpa using h1
          | succ i => simp at hj; simpa using h4 i j hj
  obtain ⟨h1, h2⟩ := key _ _ h
  exact ⟨by simpa using h1, fun i hi => h2 i i (by simp [hi])⟩

theorem shFields_fit {n fuel : Nat} (ih : ∀ (t : TypeId) (cs : List Value) (x : DataW H × List MemPlace) (ks : List Sh), shape P n t = some ks → DataW.trod enc P w base (fun _ => true) held fuel t cs = some x → (x.1.weights P t).all (· ≤ reachBytes) = true → Fit w ks cs) (cs : List Value) :
    ∀ (fs : List Field) (off : Nat) (ks : List Sh) (xs : List (DataW H × List MemPlace)), shFields P (shape P n) cs.length off fs = some ks →
      (fs.mapM fun f => DataW.trod enc P w base (fun _ => true) held fuel f.type ((cs.drop f.offset).take (P.cellsOf f.type))) = some xs → (DataW.weightsEach P (fs.map (·.type)) (xs.map (·.1))).all (· ≤ reachBytes) = true → Fit w ks (cs.drop off)
  | [], off, ks, xs, h, _, _ => by
    simp only [shFields] at h
    obtain ⟨hb, h⟩ := cond_some h
    have := Nat.eq_of_beq_eq_true hb
    simp only [Option.some.injEq] at h
    subst h
    rw [this, List.drop_length]
    exact .nil
  | f :: fs, off, ks, xs, h, hx, hw => by
    simp only [shFields] at h
    split at h
    · rename_i k1 hk1
      obtain ⟨hb, h⟩ := cond_some h
      have ho := Nat.eq_of_beq_eq_true hb
      split at h
      · rename_i k2 hk2
        simp only [Option.some.injEq] at h
        subst h
        rw [List.mapM_cons] at hx
        cases h1 : DataW.trod enc P w base (fun _ => true) held fuel f.type ((cs.drop f.offset).take (P.cellsOf f.type)) with
        | none => rw [h1] at hx; cases hx
        | some x1 =>
          rw [h1] at hx
          cases h2 : (fs.mapM fun f => DataW.trod enc P w base (fun _ => true) held fuel f.type ((cs.drop f.offset).take (P.cellsOf f.type))) with
          | none => rw [h2] at hx; cases hx
          | some x2 =>
            rw [h2] at hx
            cases hx
            simp only [List.map_cons, DataW.weightsEach, List.all_append, Bool.and_eq_true] at hw
            have f1 := ih _ _ _ _ hk1 h1 hw.1
            have f2 := shFields_fit ih cs fs _ _ _ hk2 h2 hw.2
            rw [ho] at f1
            have := f1.append f2
            have e : (cs.drop off).take (P.cellsOf f.type) ++ cs.drop (off + P.cellsOf f.type) = cs.drop off := by
              rw [← List.drop_drop]; exact List.take_append_drop _ _
            rw [e] at this
            exact this
      · cases h
    · cases h

theorem shape_fit : ∀ (n fuel : Nat) (t : TypeId) (cs : List Value) (x : DataW H × List MemPlace) (ks : List Sh), shape P n t = some ks → DataW.trod enc P w base (fun _ => true) held fuel t cs = some x → (x.1.weights P t).all (· ≤ reachBytes) = true → Fit w ks cs
  | 0, _, _, _, _, _, h, _, _ => by simp [shape] at h
  | n + 1, 0, t, cs, x, ks, _, hx, _ => by simp [DataW.trod] at hx
  | n + 1, fuel + 1, t, cs, x, ks, h, hx, hw => by
    simp only [shape] at h
    split at h
    · rename_i hu
      simp only [Option.some.injEq] at h; subst h
      obtain ⟨b, rfl, _⟩ := DataW.trod_bool hu hx
      exact .bool b .nil
    · rename_i k hu
      simp only [Option.some.injEq] at h; subst h
      obtain ⟨m, rfl, _, hwf⟩ := DataW.trod_int hu hx
      exact .int k m hwf .nil
    · rename_i hu
      simp only [Option.some.injEq] at h; subst h
      obtain ⟨s, rfl, _⟩ := DataW.trod_string hu hx
      exact .str s.data.toList .nil
    · rename_i e hu
      obtain ⟨hb, h⟩ := cond_some h
      simp only [Option.some.injEq] at h; subst h
      obtain ⟨f0, f1, he, ce, be, o0, o1, c0, c1, i0, i1⟩ := pairsT_facts hb
      obtain ⟨d, p⟩ := x
      obtain ⟨v, xs, rfl, h1, h2, h3⟩ := trod_pairs hu he ce o0 o1 c0 c1 i0 i1 hx
      refine .pairs v xs h1 h2 ?_ .nil
      rcases h3 with rfl | ⟨es, sp, rfl, hes⟩
      · simp
      · simp only [DataW.weights, hu, List.all_cons, Bool.and_eq_true, decide_eq_true_eq, be] at hw
        omega
    · rename_i fs hu
      have hx' : (if cs.length = P.cellsOf t then (fs.toList.mapM fun f => DataW.trod enc P w base (fun _ => true) held fuel f.type ((cs.drop f.offset).take (P.cellsOf f.type))).map fun xs => (DataW.agg (xs.map (·.1)), xs.flatMap (·.2)) else none) = some x := by
        simpa only [DataW.trod, hu] using hx
      split at hx'
      · rename_i hlen
        cases h2 : (fs.toList.mapM fun f => DataW.trod enc P w base (fun _ => true) held fuel f.type ((cs.drop f.offset).take (P.cellsOf f.type))) with
        | none => rw [h2] at hx'; cases hx'
        | some xs =>
          rw [h2] at hx'
          simp only [Option.map_some, Option.some.injEq] at hx'
          subst hx'
          simp only [DataW.weights, hu] at hw
          rw [← hlen] at h
          have := shFields_fit (shape_fit n fuel) cs fs.toList 0 ks xs h h2 hw
          rw [List.drop_zero] at this
          exact this
      · cases hx'
    · rename_i m e hu
      obtain ⟨hb, h⟩ := cond_some h
      have hc := Nat.eq_of_beq_eq_true hb
      split at h
      · rename_i js hj
        simp only [Option.some.injEq] at h; subst h
        have hx' : (if cs.length = P.cellsOf t then ((List.range m).mapM fun i => DataW.trod enc P w base (fun _ => true) held fuel e ((cs.drop (i * P.cellsOf e)).take (P.cellsOf e))).map fun xs => (DataW.agg (xs.map (·.1)), xs.flatMap (·.2)) else none) = some x := by
          simpa only [DataW.trod, hu] using hx
        split at hx'
        · rename_i hlen
          cases h2 : ((List.range m).mapM fun i => DataW.trod enc P w base (fun _ => true) held fuel e ((cs.drop (i * P.cellsOf e)).take (P.cellsOf e))) with
          | none => rw [h2] at hx'; cases hx'
          | some xs =>
            rw [h2] at hx'
            simp only [Option.map_some, Option.some.injEq] at hx'
            subst hx'
            simp only [DataW.weights, hu] at hw
            obtain ⟨hl, hi⟩ := mapM_range h2
            have := Fit.arr (ks := []) (js := js) (n := m) (m := P.cellsOf e) (zs := cs) (cs := []) (by omega) (fun i hlt => by
              have h3 := hi i hlt
              have hlt' : i < xs.length := by omega
              rw [List.getElem?_eq_getElem hlt'] at h3
              refine shape_fit n fuel e _ _ js hj h3 (List.all_eq_true.2 fun y hy => ?_)
              exact List.all_eq_true.1 hw y (weights_all (j := i) (by simp [hlt']) y hy)) .nil
            rw [List.append_nil] at this
            exact this
        · cases hx'
      · cases h
    · cases h

/-- A struct that came in. -/
theorem open_shape {r : Reach} {b0 : Nat} {t : TypeId} {fs : Array Field} {v : Value} {d : DataW H} {p : List MemPlace} {ks : List Sh} (hs : P.underlying t = some (.struct fs)) (hk : shape P 12 t = some ks)
    (hv : Value.okWide P w r b0 t v) (hw : (d.weights P t).all (· ≤ reachBytes) = true) (h : DataW.Trod enc P w base (fun _ => true) held t v d p) : ∃ cs : List Value, v = .agg ⟨cs⟩ ∧ Fit w ks cs := by
  obtain ⟨cs, rfl, _⟩ := okWide_struct hs hv
  obtain ⟨fuel, hf⟩ := h
  exact ⟨cs.toList, by cases cs; rfl, shape_fit 12 fuel t cs.toList _ ks hk (by simpa [Value.cells] using hf) hw⟩
theorem sized_each {ts : List TypeId} {ds : List (DataW H)} (h : (DataW.weightsEach P ts ds).all (· ≤ reachBytes) = true) {j : Nat} {t : TypeId} {d : DataW H} (ht : ts[j]? = some t) (hd : ds[j]? = some d) : (d.weights P t).all (· ≤ reachBytes) = true :=
  List.all_eq_true.2 fun n hn => List.all_eq_true.1 h n (DataW.weights_mem_each ht hd n hn)
end

theorem Fit.nil_inv {w : World} {cs : List Value} (h : Fit w [] cs) : cs = [] := by cases h; rfl
theorem Fit.bool_inv {w : World} {ks : List Sh} {cs : List Value} (h : Fit w (.bool :: ks) cs) : ∃ b r, cs = .bool b :: r ∧ Fit w ks r := by
  cases h with | bool b h => exact ⟨b, _, rfl, h⟩
theorem Fit.int_inv {w : World} {k : IntKind} {ks : List Sh} {cs : List Value} (h : Fit w (.int k :: ks) cs) : ∃ n r, cs = .int k n :: r ∧ (Lit.int k n).wf = true ∧ Fit w ks r := by
  cases h with | int k n hw h => exact ⟨n, _, rfl, hw, h⟩
theorem Fit.pairs_inv {w : World} {ks : List Sh} {cs : List Value} (h : Fit w (.pairs :: ks) cs) : ∃ v r xs, cs = v :: r ∧ (∀ gh, VRel (kapOf w gh) (.lst 2 (kf xs) xs.length []) v) ∧ (∀ x ∈ xs, (Lit.int .i64 x.1).wf = true ∧ (Lit.int .i64 x.2).wf = true) ∧ xs.length * 16 ≤ reachBytes ∧ Fit w ks r := by
  cases h with | pairs v xs h1 h2 h3 h => exact ⟨v, _, xs, rfl, h1, h2, h3, h⟩
theorem Fit.arr_inv {w : World} {n m : Nat} {js ks : List Sh} {cs : List Value} (h : Fit w (.arr n m js :: ks) cs) : ∃ zs r, cs = zs ++ r ∧ zs.length = n * m ∧ (∀ i, i < n → Fit w js ((zs.drop (i * m)).take m)) ∧ Fit w ks r := by
  cases h with | arr h1 h2 h => exact ⟨_, _, rfl, h1, h2, h⟩
/-- An array of numbers. -/
theorem Fit.ints_inv {w : World} {n : Nat} {ks : List Sh} {cs : List Value} (h : Fit w (.arr n 1 [.int .i64] :: ks) cs) : ∃ (xs : List Int) (zs r : List Value), cs = zs ++ r ∧ xs.length = n ∧ (∀ x ∈ xs, (Lit.int .i64 x).wf = true) ∧ (∀ gh avs r', CRel (kapOf w gh) avs r' → CRel (kapOf w gh) (.arr 1 n (nf xs) [] :: avs) (zs ++ r')) ∧ Fit w ks r := by
  obtain ⟨zs, r, rfl, hl, hi, hr⟩ := h.arr_inv
  rw [Nat.mul_one] at hl
  have hg : ∀ i, i < n → ∃ x, zs[i]? = some (.int .i64 x) ∧ (Lit.int .i64 x).wf = true := fun i hlt => by
    obtain ⟨x, r', he, hw, h3⟩ := (hi i hlt).int_inv
    refine ⟨x, ?_, hw⟩
    rw [Nat.mul_one] at he
    have := congrArg (fun l => l[0]?) he
    simp only [List.getElem?_take, List.getElem?_drop, List.getElem?_cons_zero] at this
    simpa using this
  let xs : List Int := (List.range n).map fun i => numV (zs.getD i (.bool false))
  have hx : ∀ i, i < n → zs[i]? = some (.int .i64 (xs.getD i 0)) ∧ (Lit.int .i64 (xs.getD i 0)).wf = true := fun i hlt => by
    obtain ⟨x, h1, h2⟩ := hg i hlt
    have : xs.getD i 0 = x := by
      have hj : i < (List.range n).length := by simpa using hlt
      simp only [xs, List.getD_eq_getElem?_getD, List.getElem?_map]
      rw [List.getElem?_eq_getElem hj, List.getElem_range]
      simp [h1, numV]
    rw [this]
    exact ⟨h1, h2⟩
  refine ⟨xs, zs, r, rfl, by simp [xs], fun x hxm => ?_, fun gh avs r' hr' => ?_, hr⟩
  · obtain ⟨i, hi2, rfl⟩ := List.mem_iff_getElem.1 hxm
    have hlt : i < n := by simpa [xs] using hi2
    have := (hx i hlt).2
    rwa [List.getD_eq_getElem?_getD, List.getElem?_eq_getElem hi2] at this
  · refine .arr 1 n (nf xs) [] zs (by rw [hl, Nat.mul_one]) (fun z hz => ?_) (fun i _ => rfl) (fun i hlt => ?_) rfl hr'
    · obtain ⟨i, hi2, rfl⟩ := List.mem_iff_getElem.1 hz
      have h1 := (hx i (by omega)).1
      rw [List.getElem?_eq_getElem hi2] at h1
      rw [Option.some.inj h1]; rfl
    · have e1 : (zs.drop (i * 1)).take 1 = [.int .i64 (xs.getD i 0)] := by
        apply List.ext_getElem?
        intro j
        rw [List.getElem?_take]
        match j with
        | 0 => simpa using (hx i hlt).1
        | j + 1 => simp
      rw [e1]
      exact .int _ _ .nil
end Go.Sv
namespace Go.Sv
open Go.RowKit Go.Proofs

/-! ### book.list: the loop (C) -/
def lLstC (n i m : Nat) : List (Nat × AV) := [(0, .mp 2), (3, .slc 6 [] 0 0 2 m m), (8, .slc 5 [] 0 0 1 n n), (9, .int .i64 (Int.ofNat n)), (10, .int .i64 (Int.ofNat i))]
theorem gLstC (n i m : Nat) : (slots (lLstC n i m) (Env.mk 5)).get 3 = .slc 6 [] 0 0 2 m m := by kernel_rfl
theorem gLstRC (n m q : Nat) (v : Int) : let E := (((((Env.mk 5).set 0 (.mp 2)).set 3 (.slc q [] 0 0 2 m m)).set 8 (.slc 5 [] 0 0 1 n n)).set 9 (.int .i64 (Int.ofNat n))).set 10 (.int .i64 v)
    E.get 0 = .mp 2 ∧ E.get 3 = .slc q [] 0 0 2 m m ∧ E.get 8 = .slc 5 [] 0 0 1 n n ∧ E.get 9 = .int .i64 (Int.ofNat n) ∧ E.get 10 = .int .i64 v := ⟨by kernel_rfl, by kernel_rfl, by kernel_rfl, by kernel_rfl, by kernel_rfl⟩
theorem evLstC (xs ys : List (Int × Int)) (ks : List Int) (n i m : Nat) : evCode Try.prog KC7 L0 (regB Try.prog) 60 71 (loopOf Try.prog 71 0) (slots (lLstC n i m) (Env.mk 5)) ⟨7, [(2, .ptab xs), (5, .cells [.arr 1 n (nf ks) []] true true), (6, .cells [.arr 2 m (kf ys) []] true true)]⟩
    (fun e E' st' => some (e, keepE E' [0, 3, 8, 9, 10] (Env.mk 5), [2, 5, 8].map (find st'.mem))) =
  (bif decide (Int.ofNat i < Int.ofNat n) then bif decide (Int.ofNat i < (n : Int)) then bif Nat.blt i n then bif Nat.ble m m then bif Nat.ble ((m + 1) * 16) LIM then
    some (.normal, (((((Env.mk 5).set 0 (.mp 2)).set 3 (.slc 8 [] 0 0 2 (m + 1) (m + 1))).set 8 (.slc 5 [] 0 0 1 n n)).set 9 (.int .i64 (Int.ofNat n))).set 10 (.int .i64 (IntKind.i64.wrap (Int.ofNat (i + 1)))),
      [some (.ptab xs), some (.cells [.arr 1 n (nf ks) []] true true), some (.cells [.arr 2 (m + 1) (kf ys) [(m, [.int .i64 (ks.getD i 0), .int .i64 (bytF (ks.getD i 0) xs)])]] true true)])
  else none else none else none else none else some (.exit 0, slots (lLstC n i m) (Env.mk 5), [some (.ptab xs), some (.cells [.arr 1 n (nf ks) []] true true), none])) := by kernel_rfl
theorem evLstEC (xs ys : List (Int × Int)) (ks : List Int) (n m : Nat) : evCode Try.prog KC7 L0 (regB Try.prog) 60 71 (loopOf Try.prog 71 0) (slots (lLstC n n m) (Env.mk 5)) ⟨7, [(2, .ptab xs), (5, .cells [.arr 1 n (nf ks) []] true true), (6, .cells [.arr 2 m (kf ys) []] true true)]⟩
    (fun e E' st' => some (e, keepE E' [0, 3, 8, 9, 10] (Env.mk 5), [(2, Row.ptab xs), (6, Row.cells [.arr 2 m (kf ys) []] true true)].map (fun p => find st'.mem p.1))) =
  (bif decide (Int.ofNat n < Int.ofNat n) then bif decide (Int.ofNat n < (n : Int)) then bif Nat.blt n n then bif Nat.ble m m then bif Nat.ble ((m + 1) * 16) LIM then
    some (.normal, (((((Env.mk 5).set 0 (.mp 2)).set 3 (.slc 8 [] 0 0 2 (m + 1) (m + 1))).set 8 (.slc 5 [] 0 0 1 n n)).set 9 (.int .i64 (Int.ofNat n))).set 10 (.int .i64 (IntKind.i64.wrap (Int.ofNat (n + 1)))), [some (.ptab xs), none])
  else none else none else none else none else some (.exit 0, slots (lLstC n n m) (Env.mk 5), [(2, Row.ptab xs), (6, Row.cells [.arr 2 m (kf ys) []] true true)].map (fun p => some p.2))) := by kernel_rfl
theorem loopLstC (xs : List (Int × Int)) (ks : List Int) (hx : ks.length < 1000000) {nb : Nat} (hnb : nb ≤ 6) (hs : SubOk Try.prog 71 (loopOf Try.prog 71 0)) :
    LoopOk Try.prog nb (szOf Try.prog 71) (loopOf Try.prog 71 0) (slots (lLstC ks.length 0 0) (Env.mk 5)) ⟨7, [(2, .ptab xs), (5, .cells [.arr 1 ks.length (nf ks) []] true true), (6, rOf [])]⟩ (.exit 0) (slots [(3, .slc 6 [] 0 0 2 (pairsF xs ks).length (pairsF xs ks).length)] (Env.mk 5)) ⟨7, [(2, .ptab xs), (6, rOf (pairsF xs ks))]⟩ := by
  have key := loop_fold (P := Try.prog) (nb := nb) (sz := szOf Try.prog 71) (b := loopOf Try.prog 71 0) (stLst xs) ks 0 (fun i s => s.length = i) (fun i s => (slots (lLstC ks.length i s.length) (Env.mk 5), ⟨7, [(2, .ptab xs), (5, .cells [.arr 1 ks.length (nf ks) []] true true), (6, rOf s)]⟩)) (fun s => ⟨.exit 0, slots [(3, .slc 6 [] 0 0 2 s.length s.length)] (Env.mk 5), ⟨7, [(2, .ptab xs), (6, rOf s)]⟩⟩) (fun _ => ⟨.ret, Env.mk 5, ⟨0, []⟩⟩) (fun i ys hI hi => ?_) (fun s _ => ?_) (fun _ h => by cases h) (fun _ h => by cases h) ks 0 [] rfl rfl (Nat.zero_le _)
  · rw [show fork (fun s : List (Int × Int) => Fin3.mk (.exit 0) (slots [(3, .slc 6 [] 0 0 2 s.length s.length)] (Env.mk 5)) ⟨7, [(2, .ptab xs), (6, rOf s)]⟩) (fun _ => Fin3.mk .ret (Env.mk 5) ⟨0, []⟩) (foldX (stLst xs) [] ks) = Fin3.mk (.exit 0) (slots [(3, .slc 6 [] 0 0 2 (pairsF xs ks).length (pairsF xs ks).length)] (Env.mk 5)) ⟨7, [(2, .ptab xs), (6, rOf (pairsF xs ks))]⟩ from (stLst_fold xs (fun s : List (Int × Int) => Fin3.mk (.exit 0) (slots [(3, .slc 6 [] 0 0 2 s.length s.length)] (Env.mk 5)) ⟨7, [(2, .ptab xs), (6, rOf s)]⟩) _ ks []).trans (by rw [List.nil_append])] at key
    exact key
  · have hw := wrapNat (show i < 9223372036854775807 by omega)
    have hbl : Nat.ble ys.length ys.length = true := by simp
    have hlt : Nat.blt i ks.length = true := by simp [hi]
    have hlim : Nat.ble ((ys.length + 1) * 16) LIM = true := by unfold LIM; simp; omega
    have hev := evLstC xs ys ks ks.length i ys.length
    simp only [dec_lt hi, dec_lt' hi, cond_true, hw, hbl, hlt, hlim] at hev
    have hlen : (ys ++ [(ks.getD i 0, bytF (ks.getD i 0) xs)]).length = ys.length + 1 := by simp
    refine ⟨by rw [hlen]; omega, ?_⟩
    dsimp only
    rw [hlen]
    refine code_pull sprog_ok.1 sprog_ok.2 KC7_ok l0_ok (fuel := 60) (ts := [0, 3, 8, 9, 10]) (ms := [(2, .ptab xs), (5, .cells [.arr 1 ks.length (nf ks) []] true true), (6, rOf (ys ++ [(ks.getD i 0, bytF (ks.getD i 0) xs)]))])
      (fun x => bif Nat.beq x 6 then 8 else x) (fun x => bif Nat.beq x 2 then .ptab xs else bif Nat.beq x 5 then .cells [.arr 1 ks.length (nf ks) []] true true else .cells [.arr 2 (ys.length + 1) (kf ys) [(ys.length, [.int .i64 (ks.getD i 0), .int .i64 (bytF (ks.getD i 0) xs)])]] true true) hs (by dsimp only; omega) (by omega) (fun x hx => by rw [beq_false (show x ≠ 6 by omega)]; rfl) (fun p hp κ y hy => ?_) (fun p hp => ?_) (fun p hp p' hp' h => ?_) hev
    · obtain ⟨g0, g3, g8, g9, g10⟩ := gLstRC ks.length (ys.length + 1) 8 (Int.ofNat (i + 1))
      simp only [lLstC, List.mem_cons, List.not_mem_nil, or_false] at hp
      rcases hp with rfl | rfl | rfl | rfl | rfl
      · dsimp only at hy; rw [g0] at hy; exact VRel.pull_mp rfl (by omega) hy
      · dsimp only at hy; rw [g3] at hy; exact VRel.pull_slc rfl (by omega) hy
      · dsimp only at hy; rw [g8] at hy; exact VRel.pull_slc rfl (by omega) hy
      · dsimp only at hy; rw [g9] at hy; exact VRel.pull rfl hy
      · dsimp only at hy; rw [g10] at hy; exact VRel.pull rfl hy
    · simp only [List.mem_cons, List.not_mem_nil, or_false] at hp
      rcases hp with rfl | rfl | rfl
      · exact ⟨RowLe.ptab (by omega), fun _ => rfl⟩
      · exact ⟨RowLe.plain (by omega) rfl, fun _ => rfl⟩
      · unfold rOf
        rw [hlen]
        exact ⟨RowLe.arr (by omega) id (kf_snoc ys _), fun _ => rfl⟩
    · simp only [List.mem_cons, List.not_mem_nil, or_false] at hp hp'
      rcases hp with rfl | rfl | rfl <;> rcases hp' with rfl | rfl | rfl <;> first | rfl | (dsimp only at h; exact absurd h (by decide))
  · have hev := evLstEC xs s ks ks.length s.length
    simp only [dec_nlt, cond_false] at hev
    exact (code_rows sprog_ok.1 sprog_ok.2 KC7_ok l0_ok (fuel := 60) (ts := [0, 3, 8, 9, 10]) (ms := [(2, .ptab xs), (6, rOf s)]) hs (by dsimp only; omega) (by omega) rfl rfl hev).less (less_slots fun p hp => by rw [List.mem_singleton.1 hp]; exact gLstC _ _ _)
theorem gEntC (n : Nat) : let E := slots [(0, .mp 2), (3, .raw (.slice none 0 0)), (8, .slc 5 [] 0 0 1 n n), (9, .int .i64 (Int.ofNat n)), (10, .int .i64 0)] (Env.mk 5); E.get 0 = .mp 2 ∧ E.get 3 = .raw (.slice none 0 0) ∧ E.get 8 = .slc 5 [] 0 0 1 n n ∧ E.get 9 = .int .i64 (Int.ofNat n) ∧ E.get 10 = .int .i64 0 := ⟨by kernel_rfl, by kernel_rfl, by kernel_rfl, by kernel_rfl, by kernel_rfl⟩
def fLoopLstC (R : Type) (E : Env) (st : AS) : Option ((EK → Env → AS → Option R) → Option R) :=
  match E.get 0, E.get 3, E.get 8, E.get 9, E.get 10 with
  | .mp 2, .raw (.slice none 0 0), .slc 5 [] 0 0 1 n n1, .int .i64 m, .int .i64 i => match st.mem with
    | [(2, .ptab xs), (4, _), (5, .cells [.arr 1 n2 g us] true true)] => some fun k => bif Nat.beq st.next 6 && decide (m = Int.ofNat n) && decide (i = 0) && Nat.blt n 1000000 && okN g n us && (decide (n = n1) && decide (n = n2)) then
        k .normal (slots [(3, .slc 6 [] 0 0 2 (pairsF xs (nl g n us)).length (pairsF xs (nl g n us)).length)] (Env.mk 5)) ⟨7, [(2, .ptab xs), (6, rOf (pairsF xs (nl g n us)))]⟩ else none
    | _ => none
  | _, _, _, _, _ => none
theorem okLoopLstC : LoopFn Try.prog 71 0 fLoopLstC := fun R E st G h hs nb hnb k r hk => by
  unfold fLoopLstC at h
  split at h
  · rename_i n n1 m i g0 g3 g8 g9 g10
    split at h
    · rename_i xs r1 n2 g us hm
      simp only [Option.some.injEq] at h
      subst h
      obtain ⟨hc, hk1⟩ := cond_some hk
      clear hk
      simp only [Bool.and_eq_true, decide_eq_true_eq] at hc
      obtain ⟨⟨⟨⟨⟨c1, c2⟩, c3⟩, c4⟩, c5⟩, c6, c7⟩ := hc
      have d1 := Nat.eq_of_beq_eq_true c1
      have d4 : n < 1000000 := by simpa using c4
      clear c1
      obtain ⟨next, mem⟩ := st
      dsimp only at hm d1
      subst hm; subst d1; subst c2; subst c3; subst c6; subst c7
      have hl := loopLstC xs (nl g n us) (by rw [nl_length]; exact d4) hnb hs
      have hw1 : Weak nb (szOf Try.prog 71) E ⟨6, [(2, .ptab xs), (4, r1), (5, .cells [.arr 1 n g us] true true)]⟩ (slots [(0, .mp 2), (3, .raw (.slice none 0 0)), (8, .slc 5 [] 0 0 1 n n), (9, .int .i64 (Int.ofNat n)), (10, .int .i64 0)] (Env.mk 5)) ⟨6, [(2, .ptab xs), (5, .cells [.arr 1 n (nf (nl g n us)) []] true true)]⟩ := weak_pull id (fun _ _ => rfl) hnb (fun p hp κ y hy => by
        simp only [List.mem_cons, List.not_mem_nil, or_false] at hp
        rcases hp with rfl | rfl | rfl | rfl | rfl
        · dsimp only at hy; rw [g0] at hy; exact VRel.pull_mp rfl (by dsimp only; omega) hy
        · dsimp only at hy; rw [g3] at hy; exact VRel.pull rfl hy
        · dsimp only at hy; rw [g8] at hy; exact VRel.pull_slc rfl (by dsimp only; omega) hy
        · dsimp only at hy; rw [g9] at hy; exact VRel.pull rfl hy
        · dsimp only at hy; rw [g10] at hy; exact VRel.pull rfl hy) (fun m r2 hf => by
        have hp := find_mem _ _ _ hf
        simp only [List.mem_cons, List.not_mem_nil, or_false, Prod.mk.injEq] at hp
        rcases hp with ⟨rfl, rfl⟩ | ⟨rfl, rfl⟩
        · exact ⟨_, rfl, RowLe.ptab (by dsimp only; omega), fun _ => rfl⟩
        · exact ⟨_, rfl, RowLe.arr (by dsimp only; omega) id (fun i hi => nf_nl c5 hi), fun _ => rfl⟩) (fun _ _ _ _ _ _ h => h)
      have hg : ∀ (n : Nat), let E := slots [(0, .mp 2), (3, .raw (.slice none 0 0)), (8, .slc 5 [] 0 0 1 n n), (9, .int .i64 (Int.ofNat n)), (10, .int .i64 0)] (Env.mk 5); E.get 0 = .mp 2 ∧ E.get 3 = .raw (.slice none 0 0) ∧ E.get 8 = .slc 5 [] 0 0 1 n n ∧ E.get 9 = .int .i64 (Int.ofNat n) ∧ E.get 10 = .int .i64 0 := gEntC
      obtain ⟨e0, e3, e8, e9, e10⟩ := hg n
      have hw2 : Weak nb (szOf Try.prog 71) (slots [(0, .mp 2), (3, .raw (.slice none 0 0)), (8, .slc 5 [] 0 0 1 n n), (9, .int .i64 (Int.ofNat n)), (10, .int .i64 0)] (Env.mk 5)) ⟨6, [(2, .ptab xs), (5, .cells [.arr 1 n (nf (nl g n us)) []] true true)]⟩ (slots (lLstC n 0 0) (Env.mk 5)) ⟨7, [(6, .cells [.arr 2 0 (kf []) []] true true), (2, .ptab xs), (5, .cells [.arr 1 n (nf (nl g n us)) []] true true)]⟩ := weak_nil2 (t := 3) (w := 2) hnb (fun p hp hne => by
        simp only [lLstC, List.mem_cons, List.not_mem_nil, or_false] at hp
        rcases hp with rfl | rfl | rfl | rfl | rfl
        · exact e0
        · exact absurd rfl hne
        · exact e8
        · exact e9
        · exact e10) e3 (fun p hp e => by
        simp only [lLstC, List.mem_cons, List.not_mem_nil, or_false] at hp
        rcases hp with rfl | rfl | rfl | rfl | rfl <;> first | rfl | (cases e))
      have hw3 : Weak nb (szOf Try.prog 71) (slots (lLstC n 0 0) (Env.mk 5)) ⟨7, [(6, .cells [.arr 2 0 (kf []) []] true true), (2, .ptab xs), (5, .cells [.arr 1 n (nf (nl g n us)) []] true true)]⟩ (slots (lLstC n 0 0) (Env.mk 5)) ⟨7, [(2, .ptab xs), (5, .cells [.arr 1 n (nf (nl g n us)) []] true true), (6, rOf [])]⟩ := fun κ a w hA hR => by
        have he : find [(6, Row.cells [.arr 2 0 (kf []) []] true true), (2, .ptab xs), (5, .cells [.arr 1 n (nf (nl g n us)) []] true true)] = find [(2, .ptab xs), (5, .cells [.arr 1 n (nf (nl g n us)) []] true true), (6, rOf [])] := funext fun x => by
          simp only [find]
          by_cases x1 : 6 = x
          · subst x1; rfl
          · rw [beq_false x1]; simp only [cond_false]
        have hm2 := hR.mem
        refine ⟨κ, Kap.leN_refl _ _, hA, ⟨hR.fresh, by dsimp only at hm2 ⊢; rw [← he]; exact hm2⟩, ?_⟩
        dsimp only
        rw [← he]
        exact Fr.refl _ _ _
      rw [nl_length] at hl
      exact ⟨.exit 0, _, _, hk1, by dsimp only; omega, hl.weak (hw1.trans (hw2.trans hw3))⟩
    · cases h
  · cases h

/-! ### book.list: the loop (D) -/
def lLstD (n i m : Nat) : List (Nat × AV) := [(0, .mp 2), (3, .slc 6 [] 0 0 2 m m), (8, .slc 5 [] 0 0 1 n n), (9, .int .i64 (Int.ofNat n)), (10, .int .i64 (Int.ofNat i))]
theorem gLstD (n i m : Nat) : (slots (lLstD n i m) (Env.mk 5)).get 3 = .slc 6 [] 0 0 2 m m := by kernel_rfl
theorem gLstRD (n m q : Nat) (v : Int) : let E := (((((Env.mk 5).set 0 (.mp 2)).set 3 (.slc q [] 0 0 2 m m)).set 8 (.slc 5 [] 0 0 1 n n)).set 9 (.int .i64 (Int.ofNat n))).set 10 (.int .i64 v)
    E.get 0 = .mp 2 ∧ E.get 3 = .slc q [] 0 0 2 m m ∧ E.get 8 = .slc 5 [] 0 0 1 n n ∧ E.get 9 = .int .i64 (Int.ofNat n) ∧ E.get 10 = .int .i64 v := ⟨by kernel_rfl, by kernel_rfl, by kernel_rfl, by kernel_rfl, by kernel_rfl⟩
theorem evLstD (xs ys : List (Int × Int)) (ks : List Int) (n i m : Nat) : evCode Try.prog KC7 L0 (regB Try.prog) 60 71 (loopOf Try.prog 71 0) (slots (lLstD n i m) (Env.mk 5)) ⟨7, [(2, .ptab xs), (5, .cells [.arr 1 n (nf ks) []] true true), (6, .cells [.arr 2 m (kf ys) []] true true)]⟩
    (fun e E' st' => some (e, keepE E' [0, 3, 8, 9, 10] (Env.mk 5), [2, 5, 8].map (find st'.mem))) =
  (bif decide (Int.ofNat i < Int.ofNat n) then bif decide (Int.ofNat i < (n : Int)) then bif Nat.blt i n then bif Nat.ble m m then bif Nat.ble ((m + 1) * 16) LIM then
    some (.normal, (((((Env.mk 5).set 0 (.mp 2)).set 3 (.slc 8 [] 0 0 2 (m + 1) (m + 1))).set 8 (.slc 5 [] 0 0 1 n n)).set 9 (.int .i64 (Int.ofNat n))).set 10 (.int .i64 (IntKind.i64.wrap (Int.ofNat (i + 1)))),
      [some (.ptab xs), some (.cells [.arr 1 n (nf ks) []] true true), some (.cells [.arr 2 (m + 1) (kf ys) [(m, [.int .i64 (ks.getD i 0), .int .i64 (bytF (ks.getD i 0) xs)])]] true true)])
  else none else none else none else none else some (.exit 0, slots (lLstD n i m) (Env.mk 5), [some (.ptab xs), some (.cells [.arr 1 n (nf ks) []] true true), none])) := by kernel_rfl
theorem evLstED (xs ys : List (Int × Int)) (ks : List Int) (n m : Nat) : evCode Try.prog KC7 L0 (regB Try.prog) 60 71 (loopOf Try.prog 71 0) (slots (lLstD n n m) (Env.mk 5)) ⟨7, [(2, .ptab xs), (5, .cells [.arr 1 n (nf ks) []] true true), (6, .cells [.arr 2 m (kf ys) []] true true)]⟩
    (fun e E' st' => some (e, keepE E' [0, 3, 8, 9, 10] (Env.mk 5), [(2, Row.ptab xs), (6, Row.cells [.arr 2 m (kf ys) []] true true)].map (fun p => find st'.mem p.1))) =
  (bif decide (Int.ofNat n < Int.ofNat n) then bif decide (Int.ofNat n < (n : Int)) then bif Nat.blt n n then bif Nat.ble m m then bif Nat.ble ((m + 1) * 16) LIM then
    some (.normal, (((((Env.mk 5).set 0 (.mp 2)).set 3 (.slc 8 [] 0 0 2 (m + 1) (m + 1))).set 8 (.slc 5 [] 0 0 1 n n)).set 9 (.int .i64 (Int.ofNat n))).set 10 (.int .i64 (IntKind.i64.wrap (Int.ofNat (n + 1)))), [some (.ptab xs), none])
  else none else none else none else none else some (.exit 0, slots (lLstD n n m) (Env.mk 5), [(2, Row.ptab xs), (6, Row.cells [.arr 2 m (kf ys) []] true true)].map (fun p => some p.2))) := by kernel_rfl
theorem loopLstD (xs : List (Int × Int)) (ks : List Int) (hx : ks.length < 1000000) {nb : Nat} (hnb : nb ≤ 6) (hs : SubOk Try.prog 71 (loopOf Try.prog 71 0)) :
    LoopOk Try.prog nb (szOf Try.prog 71) (loopOf Try.prog 71 0) (slots (lLstD ks.length 0 0) (Env.mk 5)) ⟨7, [(2, .ptab xs), (5, .cells [.arr 1 ks.length (nf ks) []] true true), (6, rOf [])]⟩ (.exit 0) (slots [(3, .slc 6 [] 0 0 2 (pairsF xs ks).length (pairsF xs ks).length)] (Env.mk 5)) ⟨7, [(2, .ptab xs), (6, rOf (pairsF xs ks))]⟩ := by
  have key := loop_fold (P := Try.prog) (nb := nb) (sz := szOf Try.prog 71) (b := loopOf Try.prog 71 0) (stLst xs) ks 0 (fun i s => s.length = i) (fun i s => (slots (lLstD ks.length i s.length) (Env.mk 5), ⟨7, [(2, .ptab xs), (5, .cells [.arr 1 ks.length (nf ks) []] true true), (6, rOf s)]⟩)) (fun s => ⟨.exit 0, slots [(3, .slc 6 [] 0 0 2 s.length s.length)] (Env.mk 5), ⟨7, [(2, .ptab xs), (6, rOf s)]⟩⟩) (fun _ => ⟨.ret, Env.mk 5, ⟨0, []⟩⟩) (fun i ys hI hi => ?_) (fun s _ => ?_) (fun _ h => by cases h) (fun _ h => by cases h) ks 0 [] rfl rfl (Nat.zero_le _)
  · rw [show fork (fun s : List (Int × Int) => Fin3.mk (.exit 0) (slots [(3, .slc 6 [] 0 0 2 s.length s.length)] (Env.mk 5)) ⟨7, [(2, .ptab xs), (6, rOf s)]⟩) (fun _ => Fin3.mk .ret (Env.mk 5) ⟨0, []⟩) (foldX (stLst xs) [] ks) = Fin3.mk (.exit 0) (slots [(3, .slc 6 [] 0 0 2 (pairsF xs ks).length (pairsF xs ks).length)] (Env.mk 5)) ⟨7, [(2, .ptab xs), (6, rOf (pairsF xs ks))]⟩ from (stLst_fold xs (fun s : List (Int × Int) => Fin3.mk (.exit 0) (slots [(3, .slc 6 [] 0 0 2 s.length s.length)] (Env.mk 5)) ⟨7, [(2, .ptab xs), (6, rOf s)]⟩) _ ks []).trans (by rw [List.nil_append])] at key
    exact key
  · have hw := wrapNat (show i < 9223372036854775807 by omega)
    have hbl : Nat.ble ys.length ys.length = true := by simp
    have hlt : Nat.blt i ks.length = true := by simp [hi]
    have hlim : Nat.ble ((ys.length + 1) * 16) LIM = true := by unfold LIM; simp; omega
    have hev := evLstD xs ys ks ks.length i ys.length
    simp only [dec_lt hi, dec_lt' hi, cond_true, hw, hbl, hlt, hlim] at hev
    have hlen : (ys ++ [(ks.getD i 0, bytF (ks.getD i 0) xs)]).length = ys.length + 1 := by simp
    refine ⟨by rw [hlen]; omega, ?_⟩
    dsimp only
    rw [hlen]
    refine code_pull sprog_ok.1 sprog_ok.2 KC7_ok l0_ok (fuel := 60) (ts := [0, 3, 8, 9, 10]) (ms := [(2, .ptab xs), (5, .cells [.arr 1 ks.length (nf ks) []] true true), (6, rOf (ys ++ [(ks.getD i 0, bytF (ks.getD i 0) xs)]))])
      (fun x => bif Nat.beq x 6 then 8 else x) (fun x => bif Nat.beq x 2 then .ptab xs else bif Nat.beq x 5 then .cells [.arr 1 ks.length (nf ks) []] true true else .cells [.arr 2 (ys.length + 1) (kf ys) [(ys.length, [.int .i64 (ks.getD i 0), .int .i64 (bytF (ks.getD i 0) xs)])]] true true) hs (by dsimp only; omega) (by omega) (fun x hx => by rw [beq_false (show x ≠ 6 by omega)]; rfl) (fun p hp κ y hy => ?_) (fun p hp => ?_) (fun p hp p' hp' h => ?_) hev
    · obtain ⟨g0, g3, g8, g9, g10⟩ := gLstRD ks.length (ys.length + 1) 8 (Int.ofNat (i + 1))
      simp only [lLstD, List.mem_cons, List.not_mem_nil, or_false] at hp
      rcases hp with rfl | rfl | rfl | rfl | rfl
      · dsimp only at hy; rw [g0] at hy; exact VRel.pull_mp rfl (by omega) hy
      · dsimp only at hy; rw [g3] at hy; exact VRel.pull_slc rfl (by omega) hy
      · dsimp only at hy; rw [g8] at hy; exact VRel.pull_slc rfl (by omega) hy
      · dsimp only at hy; rw [g9] at hy; exact VRel.pull rfl hy
      · dsimp only at hy; rw [g10] at hy; exact VRel.pull rfl hy
    · simp only [List.mem_cons, List.not_mem_nil, or_false] at hp
      rcases hp with rfl | rfl | rfl
      · exact ⟨RowLe.ptab (by omega), fun _ => rfl⟩
      · exact ⟨RowLe.plain (by omega) rfl, fun _ => rfl⟩
      · unfold rOf
        rw [hlen]
        exact ⟨RowLe.arr (by omega) id (kf_snoc ys _), fun _ => rfl⟩
    · simp only [List.mem_cons, List.not_mem_nil, or_false] at hp hp'
      rcases hp with rfl | rfl | rfl <;> rcases hp' with rfl | rfl | rfl <;> first | rfl | (dsimp only at h; exact absurd h (by decide))
  · have hev := evLstED xs s ks ks.length s.length
    simp only [dec_nlt, cond_false] at hev
    exact (code_rows sprog_ok.1 sprog_ok.2 KC7_ok l0_ok (fuel := 60) (ts := [0, 3, 8, 9, 10]) (ms := [(2, .ptab xs), (6, rOf s)]) hs (by dsimp only; omega) (by omega) rfl rfl hev).less (less_slots fun p hp => by rw [List.mem_singleton.1 hp]; exact gLstD _ _ _)
theorem gEntD (n : Nat) : let E := slots [(0, .mp 2), (3, .raw (.slice none 0 0)), (8, .slc 5 [] 0 0 1 n n), (9, .int .i64 (Int.ofNat n)), (10, .int .i64 0)] (Env.mk 5); E.get 0 = .mp 2 ∧ E.get 3 = .raw (.slice none 0 0) ∧ E.get 8 = .slc 5 [] 0 0 1 n n ∧ E.get 9 = .int .i64 (Int.ofNat n) ∧ E.get 10 = .int .i64 0 := ⟨by kernel_rfl, by kernel_rfl, by kernel_rfl, by kernel_rfl, by kernel_rfl⟩
def fLoopLstD (R : Type) (E : Env) (st : AS) : Option ((EK → Env → AS → Option R) → Option R) :=
  match E.get 0, E.get 3, E.get 8, E.get 9, E.get 10 with
  | .mp 2, .raw (.slice none 0 0), .slc 5 [] 0 0 1 n n1, .int .i64 m, .int .i64 i => match st.mem with
    | [(0, _), (1, _), (2, .ptab xs), (3, _), (4, _), (5, .cells [.arr 1 n2 g us] true true)] => some fun k => bif Nat.beq st.next 6 && decide (m = Int.ofNat n) && decide (i = 0) && Nat.blt n 1000000 && okN g n us && (decide (n = n1) && decide (n = n2)) then
        k .normal (slots [(3, .slc 6 [] 0 0 2 (pairsF xs (nl g n us)).length (pairsF xs (nl g n us)).length)] (Env.mk 5)) ⟨7, [(2, .ptab xs), (6, rOf (pairsF xs (nl g n us)))]⟩ else none
    | _ => none
  | _, _, _, _, _ => none
theorem okLoopLstD : LoopFn Try.prog 71 0 fLoopLstD := fun R E st G h hs nb hnb k r hk => by
  unfold fLoopLstD at h
  split at h
  · rename_i n n1 m i g0 g3 g8 g9 g10
    split at h
    · rename_i r0 r2 xs r3 r1 n2 g us hm
      simp only [Option.some.injEq] at h
      subst h
      obtain ⟨hc, hk1⟩ := cond_some hk
      clear hk
      simp only [Bool.and_eq_true, decide_eq_true_eq] at hc
      obtain ⟨⟨⟨⟨⟨c1, c2⟩, c3⟩, c4⟩, c5⟩, c6, c7⟩ := hc
      have d1 := Nat.eq_of_beq_eq_true c1
      have d4 : n < 1000000 := by simpa using c4
      clear c1
      obtain ⟨next, mem⟩ := st
      dsimp only at hm d1
      subst hm; subst d1; subst c2; subst c3; subst c6; subst c7
      have hl := loopLstD xs (nl g n us) (by rw [nl_length]; exact d4) hnb hs
      have hw1 : Weak nb (szOf Try.prog 71) E ⟨6, [(0, r0), (1, r2), (2, .ptab xs), (3, r3), (4, r1), (5, .cells [.arr 1 n g us] true true)]⟩ (slots [(0, .mp 2), (3, .raw (.slice none 0 0)), (8, .slc 5 [] 0 0 1 n n), (9, .int .i64 (Int.ofNat n)), (10, .int .i64 0)] (Env.mk 5)) ⟨6, [(2, .ptab xs), (5, .cells [.arr 1 n (nf (nl g n us)) []] true true)]⟩ := weak_pull id (fun _ _ => rfl) hnb (fun p hp κ y hy => by
        simp only [List.mem_cons, List.not_mem_nil, or_false] at hp
        rcases hp with rfl | rfl | rfl | rfl | rfl
        · dsimp only at hy; rw [g0] at hy; exact VRel.pull_mp rfl (by dsimp only; omega) hy
        · dsimp only at hy; rw [g3] at hy; exact VRel.pull rfl hy
        · dsimp only at hy; rw [g8] at hy; exact VRel.pull_slc rfl (by dsimp only; omega) hy
        · dsimp only at hy; rw [g9] at hy; exact VRel.pull rfl hy
        · dsimp only at hy; rw [g10] at hy; exact VRel.pull rfl hy) (fun m r2 hf => by
        have hp := find_mem _ _ _ hf
        simp only [List.mem_cons, List.not_mem_nil, or_false, Prod.mk.injEq] at hp
        rcases hp with ⟨rfl, rfl⟩ | ⟨rfl, rfl⟩
        · exact ⟨_, rfl, RowLe.ptab (by dsimp only; omega), fun _ => rfl⟩
        · exact ⟨_, rfl, RowLe.arr (by dsimp only; omega) id (fun i hi => nf_nl c5 hi), fun _ => rfl⟩) (fun _ _ _ _ _ _ h => h)
      have hg : ∀ (n : Nat), let E := slots [(0, .mp 2), (3, .raw (.slice none 0 0)), (8, .slc 5 [] 0 0 1 n n), (9, .int .i64 (Int.ofNat n)), (10, .int .i64 0)] (Env.mk 5); E.get 0 = .mp 2 ∧ E.get 3 = .raw (.slice none 0 0) ∧ E.get 8 = .slc 5 [] 0 0 1 n n ∧ E.get 9 = .int .i64 (Int.ofNat n) ∧ E.get 10 = .int .i64 0 := gEntD
      obtain ⟨e0, e3, e8, e9, e10⟩ := hg n
      have hw2 : Weak nb (szOf Try.prog 71) (slots [(0, .mp 2), (3, .raw (.slice none 0 0)), (8, .slc 5 [] 0 0 1 n n), (9, .int .i64 (Int.ofNat n)), (10, .int .i64 0)] (Env.mk 5)) ⟨6, [(2, .ptab xs), (5, .cells [.arr 1 n (nf (nl g n us)) []] true true)]⟩ (slots (lLstD n 0 0) (Env.mk 5)) ⟨7, [(6, .cells [.arr 2 0 (kf []) []] true true), (2, .ptab xs), (5, .cells [.arr 1 n (nf (nl g n us)) []] true true)]⟩ := weak_nil2 (t := 3) (w := 2) hnb (fun p hp hne => by
        simp only [lLstD, List.mem_cons, List.not_mem_nil, or_false] at hp
        rcases hp with rfl | rfl | rfl | rfl | rfl
        · exact e0
        · exact absurd rfl hne
        · exact e8
        · exact e9
        · exact e10) e3 (fun p hp e => by
        simp only [lLstD, List.mem_cons, List.not_mem_nil, or_false] at hp
        rcases hp with rfl | rfl | rfl | rfl | rfl <;> first | rfl | (cases e))
      have hw3 : Weak nb (szOf Try.prog 71) (slots (lLstD n 0 0) (Env.mk 5)) ⟨7, [(6, .cells [.arr 2 0 (kf []) []] true true), (2, .ptab xs), (5, .cells [.arr 1 n (nf (nl g n us)) []] true true)]⟩ (slots (lLstD n 0 0) (Env.mk 5)) ⟨7, [(2, .ptab xs), (5, .cells [.arr 1 n (nf (nl g n us)) []] true true), (6, rOf [])]⟩ := fun κ a w hA hR => by
        have he : find [(6, Row.cells [.arr 2 0 (kf []) []] true true), (2, .ptab xs), (5, .cells [.arr 1 n (nf (nl g n us)) []] true true)] = find [(2, .ptab xs), (5, .cells [.arr 1 n (nf (nl g n us)) []] true true), (6, rOf [])] := funext fun x => by
          simp only [find]
          by_cases x1 : 6 = x
          · subst x1; rfl
          · rw [beq_false x1]; simp only [cond_false]
        have hm2 := hR.mem
        refine ⟨κ, Kap.leN_refl _ _, hA, ⟨hR.fresh, by dsimp only at hm2 ⊢; rw [← he]; exact hm2⟩, ?_⟩
        dsimp only
        rw [← he]
        exact Fr.refl _ _ _
      rw [nl_length] at hl
      exact ⟨.exit 0, _, _, hk1, by dsimp only; omega, hl.weak (hw1.trans (hw2.trans hw3))⟩
    · cases h
  · cases h
end Go.Sv
namespace Go.Sv
open Go.RowKit Go.Proofs

/-! ### Within -/
def witF (X : List (Int × Int)) (a b c d e off size : Int) : Bool × Int :=
  bif chkE X != 0 then (false, chkE X) else bif !ptrB a b c d e then (false, 171) else bif !(decide (1 ≤ size) && decide (size ≤ 8)) then (false, 2) else
    (decide (off ≥ IntKind.i64.wrap (0 - e)) && decide (off ≤ IntKind.i64.wrap (IntKind.i64.wrap (bytF d X - size) - e)), 0)
def fWit (R : Type) (vs : List AV) (k : AV → AS → Option R) : Option R :=
  match vs with
  | [.lst 2 f n us, .agg [.int .u8 a, .int .u64 b, .int .u64 c, .int .i64 d, .int .i64 e], .int .i64 off, .int .i64 size] => bif okL f n us then k (.tup [.bool (witF (kl f n us) a b c d e off size).1, .int .i64 (witF (kl f n us) a b c d e off size).2]) ⟨0, []⟩ else none
  | _ => none
theorem evWit1 (X : List (Int × Int)) (a b c d e off size : Int) : evFn Try.prog KC9 LC9 (regB Try.prog) 60 24 [.lst 2 (kf X) X.length [], .agg [.int .u8 a, .int .u64 b, .int .u64 c, .int .i64 d, .int .i64 e], .int .i64 off, .int .i64 size] ⟨0, []⟩ ret =
  (bif okL (kf X) X.length [] then bif chkE (kl (kf X) X.length []) != Int.ofNat 0 then some (.tup [.bool false, .int .i64 (chkE (kl (kf X) X.length []))]) else
    bif !ptrB a b c d e then some (.tup [.bool false, .int .i64 171]) else bif decide (size < 1) then some (.tup [.bool false, .int .i64 2]) else bif (bif false then true else decide (size > 8)) then some (.tup [.bool false, .int .i64 2]) else
    bif okL (kf X) X.length [] && Nat.ble X.length LIM then bif decide (off ≥ IntKind.i64.wrap (0 - e)) then some (.tup [.bool (bif true then decide (off ≤ IntKind.i64.wrap (IntKind.i64.wrap (bytF d (kl (kf X) X.length []) - size) - e)) else false), .int .i64 0]) else some (.tup [.bool false, .int .i64 0]) else none
  else none) := by kernel_rfl
theorem evWit2 (X : List (Int × Int)) (a b c d e off size : Int) : evFn Try.prog KC9 LC9 (regB Try.prog) 60 25 [.lst 2 (kf X) X.length [], .agg [.int .u8 a, .int .u64 b, .int .u64 c, .int .i64 d, .int .i64 e], .int .i64 off, .int .i64 size] ⟨0, []⟩ ret =
  (bif okL (kf X) X.length [] then bif chkE (kl (kf X) X.length []) != Int.ofNat 0 then some (.tup [.bool false, .int .i64 (chkE (kl (kf X) X.length []))]) else
    bif !ptrB a b c d e then some (.tup [.bool false, .int .i64 171]) else bif !(decide (1 ≤ size) && decide (size ≤ 8)) then some (.tup [.bool false, .int .i64 2]) else
    bif decide (off ≥ IntKind.i64.wrap (0 - e)) then bif okL (kf X) X.length [] && Nat.ble X.length LIM then some (.tup [.bool (bif true then decide (off ≤ IntKind.i64.wrap (IntKind.i64.wrap (bytF d (kl (kf X) X.length []) - size) - e)) else false), .int .i64 0]) else none else some (.tup [.bool false, .int .i64 0])
  else none) := by kernel_rfl
theorem flat_pair {b : Bool} {n : Int} : flatV 4 (.tup [.bool b, .int .i64 n]) := fun x hx => by
  simp only [List.mem_cons, List.not_mem_nil, or_false] at hx
  rcases hx with rfl | rfl <;> trivial
theorem okWit1 : FnOk Try.prog 24 fWit := fun R vs k r h => by
  unfold fWit at h
  split at h
  · rename_i f n us a b c d e off size
    obtain ⟨hc, h⟩ := cond_some h
    refine ⟨_, _, h, ⟨flat_pair, fun p hp => by cases hp⟩, SoundFn.args (vs' := [.lst 2 (kf (kl f n us)) (kl f n us).length [], .agg [.int .u8 a, .int .u64 b, .int .u64 c, .int .i64 d, .int .i64 e], .int .i64 off, .int .i64 size]) (fn_plain sprog_ok.1 sprog_ok.2 KC9_ok LC9_ok (fuel := 60) rfl rfl ?_) fun κ ys hy => hy.cons_map (fun y hy => by rw [kl_length]; exact hy.pairs hc) (fun _ h => h) rfl⟩
    rw [evWit1, kl_kf, okL_kf]
    generalize kl f n us = X
    unfold witF
    have e0 : (chkE X != Int.ofNat 0) = (chkE X != 0) := rfl
    rw [e0]
    cases hb : (chkE X != 0) with
    | true => rfl
    | false =>
      have hl : Nat.ble X.length LIM = true := by have := (chkE_ok hb).1; unfold LIM; simp; omega
      rw [hl]
      cases ptrB a b c d e with
      | false => rfl
      | true =>
        by_cases h1 : size < 1
        · have h2 : decide (1 ≤ size) = false := decide_eq_false (by omega)
          rw [decide_eq_true h1, h2]; rfl
        · by_cases h3 : size > 8
          · have h2 : decide (size ≤ 8) = false := decide_eq_false (by omega)
            rw [decide_eq_false h1, decide_eq_true h3, h2, Bool.and_false]; rfl
          · have h2 : decide (size ≤ 8) = true := decide_eq_true (by omega)
            have h4 : decide (1 ≤ size) = true := decide_eq_true (by omega)
            rw [decide_eq_false h1, decide_eq_false h3, h2, h4]
            cases decide (off ≥ IntKind.i64.wrap (0 - e)) <;> rfl
  · cases h
theorem okWit2 : FnOk Try.prog 25 fWit := fun R vs k r h => by
  unfold fWit at h
  split at h
  · rename_i f n us a b c d e off size
    obtain ⟨hc, h⟩ := cond_some h
    refine ⟨_, _, h, ⟨flat_pair, fun p hp => by cases hp⟩, SoundFn.args (vs' := [.lst 2 (kf (kl f n us)) (kl f n us).length [], .agg [.int .u8 a, .int .u64 b, .int .u64 c, .int .i64 d, .int .i64 e], .int .i64 off, .int .i64 size]) (fn_plain sprog_ok.1 sprog_ok.2 KC9_ok LC9_ok (fuel := 60) rfl rfl ?_) fun κ ys hy => hy.cons_map (fun y hy => by rw [kl_length]; exact hy.pairs hc) (fun _ h => h) rfl⟩
    rw [evWit2, kl_kf, okL_kf]
    generalize kl f n us = X
    unfold witF
    have e0 : (chkE X != Int.ofNat 0) = (chkE X != 0) := rfl
    rw [e0]
    cases hb : (chkE X != 0) with
    | true => rfl
    | false =>
      have hl : Nat.ble X.length LIM = true := by have := (chkE_ok hb).1; unfold LIM; simp; omega
      rw [hl]
      cases ptrB a b c d e with
      | false => rfl
      | true =>
        cases (decide (1 ≤ size) && decide (size ≤ 8)) with
        | false => rfl
        | true => cases decide (off ≥ IntKind.i64.wrap (0 - e)) <;> rfl
  · cases h
end Go.Sv
namespace Go.Sv
open Go.RowKit Go.Proofs
def fLoopLstCD (R : Type) (E : Env) (st : AS) : Option ((EK → Env → AS → Option R) → Option R) :=
  match fLoopLstC R E st with
  | some G => some G
  | none => fLoopLstD R E st
theorem okLoopLstCD : LoopFn Try.prog 71 0 fLoopLstCD := fun R E st G h => by
  unfold fLoopLstCD at h
  split at h
  · rename_i G' hG
    simp only [Option.some.injEq] at h
    subst h
    exact okLoopLstC R E st _ hG
  · exact okLoopLstD R E st G h
def hasCI : FuncId → Bool := addHas 39 hasC9
def specCI : SpecT := addS 39 fPrv specC9
theorem specCI_ok : SpecOk Try.prog hasCI specCI := addS_ok okPrv specC9_ok
def KCI : KT := orK (specK hasCI specCI) KX
theorem KCI_ok : KOk Try.prog KCI := orK_ok (specK_ok specCI_ok) KX_ok
def LCI : LT := addL 71 0 fLoopLstCD L0
theorem LCI_ok : LOk Try.prog LCI := addL_ok sprog_ok.1 (by kernel_rfl) okLoopLstCD l0_ok
/-- What is handed back, and the row of it. -/
def kSho (v : AV) (st : AS) : Option (AV × Option Row) :=
  match v with
  | .tup [.slc q _ _ _ _ _ _, _] => some (v, find st.mem q)
  | _ => some (v, none)
def vB (a b c d e : Int) : AV := .agg [.int .u8 a, .int .u64 b, .int .u64 c, .int .i64 d, .int .i64 e]
theorem end_eq (a b c d e : Int) : (a == Int.ofNat 3 && (b == Int.ofNat 0 && (c == Int.ofNat 0 && true) && (d == Int.ofNat 0 && (e == Int.ofNat 0 && true)))) = endB a b c d e := by
  simp [endB, Bool.and_assoc]
/-- What a comparison says (chapter 16): 0 nothing, 1 at most the end, 2 below it. -/
def sayF (op : Int) (y first : Bool) : Int :=
  bif op == 29 then (bif first && y then 2 else bif !first && !y then 1 else 0) else bif op == 30 then (bif first && y then 1 else bif !first && !y then 2 else 0) else
  bif op == 31 then (bif first && !y then 1 else bif !first && y then 2 else 0) else bif op == 32 then (bif first && !y then 2 else bif !first && y then 1 else 0) else 0
def actF (X : List (Int × Int)) (s d e : Int) : List (Int × Int) × Int := bif s == 0 then (X, 0) else prvF X d (e + s - 1)
def shoF (X : List (Int × Int)) (op : Int) (y : Bool) (a b c d e a2 b2 c2 d2 e2 : Int) : List (Int × Int) × Int :=
  bif chkE X != 0 then ([], chkE X) else bif decide (op < 29) || decide (op > 32) then ([], 2) else
  bif ptrB a b c d e && endB a2 b2 c2 d2 e2 then actF X (sayF op y true) d e else bif endB a b c d e && ptrB a2 b2 c2 d2 e2 then actF X (sayF op y false) d2 e2 else ([], 171)
theorem shown_nil {vs : List AV} {e : Int} (ha : vs.all (fun x => !isArr x) = true) {g fuel : Nat} {K : KT} {L : LT} (hK : KOk Try.prog K) (hL : LOk Try.prog L) (h : evFn Try.prog K L (regB Try.prog) fuel g vs ⟨0, []⟩ kSho = some (.tup [.raw (.slice none 0 0), .int .i64 e], none)) :
    SoundFn Try.prog g vs ⟨0, []⟩ (.tup [.slc 0 [] 0 0 2 0 0, .int .i64 e]) ⟨1, [(0, rOf [])]⟩ := by
  obtain ⟨v, st1, hk, _, hs⟩ := evFn_ok sprog_ok.1 hK hL (regB_ok sprog_ok.1 sprog_ok.2) ha h
  have hv : v = .tup [.raw (.slice none 0 0), .int .i64 e] := by
    unfold kSho at hk
    split at hk <;> simp_all
  subst hv
  exact hs.noList
theorem shown_list {vs : List AV} {e : Int} {q : Nat} {ys : List (Int × Int)} (ha : vs.all (fun x => !isArr x) = true) {g fuel : Nat} {K : KT} {L : LT} (hK : KOk Try.prog K) (hL : LOk Try.prog L) (h : evFn Try.prog K L (regB Try.prog) fuel g vs ⟨0, []⟩ kSho = some (.tup [.slc q [] 0 0 2 ys.length ys.length, .int .i64 e], some (rOf ys))) :
    SoundFn Try.prog g vs ⟨0, []⟩ (.tup [.slc 0 [] 0 0 2 ys.length ys.length, .int .i64 e]) ⟨1, [(0, rOf ys)]⟩ := by
  obtain ⟨v, st1, hk, _, hs⟩ := evFn_ok sprog_ok.1 hK hL (regB_ok sprog_ok.1 sprog_ok.2) ha h
  unfold kSho at hk
  split at hk
  · simp only [Option.some.injEq, Prod.mk.injEq, AV.tup.injEq, List.cons.injEq, AV.slc.injEq] at hk
    obtain ⟨⟨⟨rfl, rfl, rfl, rfl, rfl, rfl, rfl⟩, rfl, _⟩, h2⟩ := hk
    exact hs.list h2
  · simp at hk
theorem list_id {X : List (Int × Int)} (h : chkF (-1) X = true) : pairsF X (nl (fun i => [AV.int .i64 (nthZ (sortZ (List.map (fun x => x.1) X)) i)]) (List.map (fun x => x.1) X).length []) = X :=
  (outP_eq X).trans ((listF_can (chk_book h)).trans (can_chk h))
theorem list_conds {X : List (Int × Int)} (hl : X.length ≤ 257) (h : chkF (-1) X = true) : Nat.ble (X.length * 8) 140737488355328 = true ∧ allZ X = true ∧ Nat.blt (List.map (fun x => x.1) X).length 1000000 = true ∧ okN (fun i => [AV.int .i64 (nthZ (sortZ (List.map (fun x => x.1) X)) i)]) (List.map (fun x => x.1) X).length [] = true ∧ decide (((List.map (fun x => x.1) X).length : Int) = Int.ofNat (List.map (fun x => x.1) X).length) = true :=
  ⟨Nat.ble_eq_true_of_le (by omega), List.all_eq_true.2 fun x hx => by
    have := ((chk_book h).ok x hx).1
    simp only [idB, inZ, Bool.and_eq_true, decide_eq_true_eq] at this ⊢
    omega, by simp; omega, List.all_eq_true.2 fun _ _ => rfl, by simp⟩
theorem ptr_off {a b c d e : Int} (h : ptrB a b c d e = true) : 0 ≤ e ∧ e ≤ 2048 := by
  simp only [ptrB, idB, Bool.and_eq_true, decide_eq_true_eq] at h
  exact ⟨h.2.2.1, h.2.2.2⟩
theorem evSho29t (X : List (Int × Int)) (a b c d e a2 b2 c2 d2 e2 : Int) : evFn Try.prog KCI LCI (regB Try.prog) 60 26 [.lst 2 (kf X) X.length [], .int .u8 29, .bool true, vB a b c d e, vB a2 b2 c2 d2 e2] ⟨0, []⟩ kSho =
  (bif okL (kf X) X.length [] then bif chkE (kl (kf X) X.length []) != Int.ofNat 0 then bif chkE (kl (kf X) X.length []) != Int.ofNat 0 then some (AV.tup [AV.raw (Value.slice none 0 0), AV.int IntKind.i64 (chkE (kl (kf X) X.length []))], none) else bif ptrB a b c d e then bif bif true then a2 == Int.ofNat 3 && (b2 == Int.ofNat 0 && (c2 == Int.ofNat 0 && true) && (d2 == Int.ofNat 0 && (e2 == Int.ofNat 0 && true))) else false then none else bif a == Int.ofNat 3 && (b == Int.ofNat 0 && (c == Int.ofNat 0 && true) && (d == Int.ofNat 0 && (e == Int.ofNat 0 && true))) then bif bif true then ptrB a2 b2 c2 d2 e2 else false then none else some (AV.tup [AV.raw (Value.slice none 0 0), AV.int IntKind.i64 (Int.ofNat 171)], none) else some (AV.tup [AV.raw (Value.slice none 0 0), AV.int IntKind.i64 (Int.ofNat 171)], none) else bif a == Int.ofNat 3 && (b == Int.ofNat 0 && (c == Int.ofNat 0 && true) && (d 
    == Int.ofNat 0 && (e == Int.ofNat 0 && true))) then bif bif true then ptrB a2 b2 c2 d2 e2 else false then none else some (AV.tup [AV.raw (Value.slice none 0 0), AV.int IntKind.i64 (Int.ofNat 171)], none) else some (AV.tup [AV.raw (Value.slice none 0 0), AV.int IntKind.i64 (Int.ofNat 171)], none) else bif ptrB a b c d e then bif bif true then a2 == Int.ofNat 3 && (b2 == Int.ofNat 0 && (c2 == Int.ofNat 0 && true) && (d2 == Int.ofNat 0 && (e2 == Int.ofNat 0 && true))) else false then bif ((kl (kf X) X.length []).length * 8).ble 140737488355328 && allZ (kl (kf X) X.length []) then bif true && decide (Int.ofNat (List.map (fun x => x.fst) (kl (kf X) X.length [])).length = Int.ofNat (List.map (fun x => x.fst) (kl (kf X) X.length [])).length) && true && (List.map (fun x => x.fst) (kl (kf X) X.length [])).length.blt 1000000 && okN (fun i => [AV.int IntKind.i64 (nthZ (sortZ (List.map (fun x => 
    x.fst) (kl (kf X) X.length []))) i)]) (List.map (fun x => x.fst) (kl (kf X) X.length [])).length [] && (decide ((List.map (fun x => x.fst) (kl (kf X) X.length [])).length = (List.map (fun x => x.fst) (kl (kf X) X.length [])).length) && decide ((List.map (fun x => x.fst) (kl (kf X) X.length [])).length = (List.map (fun x => x.fst) (kl (kf X) X.length [])).length)) then bif (add0 0 (pairsF (kl (kf X) X.length []) (nl (fun i => [AV.int IntKind.i64 (nthZ (sortZ (List.map (fun x => x.fst) (kl (kf X) X.length []))) i)]) (List.map (fun x => x.fst) (kl (kf X) X.length [])).length [])).length).ble (pairsF (kl (kf X) X.length []) (nl (fun i => [AV.int IntKind.i64 (nthZ (sortZ (List.map (fun x => x.fst) (kl (kf X) X.length []))) i)]) (List.map (fun x => x.fst) (kl (kf X) X.length [])).length [])).length then bif okL (kf (pairsF (kl (kf X) X.length []) (nl (fun i => [AV.int IntKind.i64 (nthZ (sortZ 
    (List.map (fun x => x.fst) (kl (kf X) X.length []))) i)]) (List.map (fun x => x.fst) (kl (kf X) X.length [])).length []))) (pairsF (kl (kf X) X.length []) (nl (fun i => [AV.int IntKind.i64 (nthZ (sortZ (List.map (fun x => x.fst) (kl (kf X) X.length []))) i)]) (List.map (fun x => x.fst) (kl (kf X) X.length [])).length [])).length [] then some (AV.tup [AV.slc 7 [] 0 0 2 (prvF (kl (kf (pairsF (kl (kf X) X.length []) (nl (fun i => [AV.int IntKind.i64 (nthZ (sortZ (List.map (fun x => x.fst) (kl (kf X) X.length []))) i)]) (List.map (fun x => x.fst) (kl (kf X) X.length [])).length []))) (pairsF (kl (kf X) X.length []) (nl (fun i => [AV.int IntKind.i64 (nthZ (sortZ (List.map (fun x => x.fst) (kl (kf X) X.length []))) i)]) (List.map (fun x => x.fst) (kl (kf X) X.length [])).length [])).length []) d (IntKind.i64.wrap (e + 1))).fst.length (prvF (kl (kf (pairsF (kl (kf X) X.length []) (nl (fun i => 
    [AV.int IntKind.i64 (nthZ (sortZ (List.map (fun x => x.fst) (kl (kf X) X.length []))) i)]) (List.map (fun x => x.fst) (kl (kf X) X.length [])).length []))) (pairsF (kl (kf X) X.length []) (nl (fun i => [AV.int IntKind.i64 (nthZ (sortZ (List.map (fun x => x.fst) (kl (kf X) X.length []))) i)]) (List.map (fun x => x.fst) (kl (kf X) X.length [])).length [])).length []) d (IntKind.i64.wrap (e + 1))).fst.length, AV.int IntKind.i64 (prvF (kl (kf (pairsF (kl (kf X) X.length []) (nl (fun i => [AV.int IntKind.i64 (nthZ (sortZ (List.map (fun x => x.fst) (kl (kf X) X.length []))) i)]) (List.map (fun x => x.fst) (kl (kf X) X.length [])).length []))) (pairsF (kl (kf X) X.length []) (nl (fun i => [AV.int IntKind.i64 (nthZ (sortZ (List.map (fun x => x.fst) (kl (kf X) X.length []))) i)]) (List.map (fun x => x.fst) (kl (kf X) X.length [])).length [])).length []) d (IntKind.i64.wrap (e + 1))).snd], some 
    (Row.cells [AV.arr 2 (prvF (kl (kf (pairsF (kl (kf X) X.length []) (nl (fun i => [AV.int IntKind.i64 (nthZ (sortZ (List.map (fun x => x.fst) (kl (kf X) X.length []))) i)]) (List.map (fun x => x.fst) (kl (kf X) X.length [])).length []))) (pairsF (kl (kf X) X.length []) (nl (fun i => [AV.int IntKind.i64 (nthZ (sortZ (List.map (fun x => x.fst) (kl (kf X) X.length []))) i)]) (List.map (fun x => x.fst) (kl (kf X) X.length [])).length [])).length []) d (IntKind.i64.wrap (e + 1))).fst.length (fun i => [AV.int IntKind.i64 ((prvF (kl (kf (pairsF (kl (kf X) X.length []) (nl (fun i => [AV.int IntKind.i64 (nthZ (sortZ (List.map (fun x => x.fst) (kl (kf X) X.length []))) i)]) (List.map (fun x => x.fst) (kl (kf X) X.length [])).length []))) (pairsF (kl (kf X) X.length []) (nl (fun i => [AV.int IntKind.i64 (nthZ (sortZ (List.map (fun x => x.fst) (kl (kf X) X.length []))) i)]) (List.map (fun x => x.fst) 
    (kl (kf X) X.length [])).length [])).length []) d (IntKind.i64.wrap (e + 1))).fst.getD i (0, 0)).fst, AV.int IntKind.i64 ((prvF (kl (kf (pairsF (kl (kf X) X.length []) (nl (fun i => [AV.int IntKind.i64 (nthZ (sortZ (List.map (fun x => x.fst) (kl (kf X) X.length []))) i)]) (List.map (fun x => x.fst) (kl (kf X) X.length [])).length []))) (pairsF (kl (kf X) X.length []) (nl (fun i => [AV.int IntKind.i64 (nthZ (sortZ (List.map (fun x => x.fst) (kl (kf X) X.length []))) i)]) (List.map (fun x => x.fst) (kl (kf X) X.length [])).length [])).length []) d (IntKind.i64.wrap (e + 1))).fst.getD i (0, 0)).snd]) []] true true)) else none else none else none else none else bif a == Int.ofNat 3 && (b == Int.ofNat 0 && (c == Int.ofNat 0 && true) && (d == Int.ofNat 0 && (e == Int.ofNat 0 && true))) then bif bif true then ptrB a2 b2 c2 d2 e2 else false then bif ((kl (kf X) X.length []).length * 8).ble 
    140737488355328 && allZ (kl (kf X) X.length []) then bif true && decide (Int.ofNat (List.map (fun x => x.fst) (kl (kf X) X.length [])).length = Int.ofNat (List.map (fun x => x.fst) (kl (kf X) X.length [])).length) && true && (List.map (fun x => x.fst) (kl (kf X) X.length [])).length.blt 1000000 && okN (fun i => [AV.int IntKind.i64 (nthZ (sortZ (List.map (fun x => x.fst) (kl (kf X) X.length []))) i)]) (List.map (fun x => x.fst) (kl (kf X) X.length [])).length [] && (decide ((List.map (fun x => x.fst) (kl (kf X) X.length [])).length = (List.map (fun x => x.fst) (kl (kf X) X.length [])).length) && decide ((List.map (fun x => x.fst) (kl (kf X) X.length [])).length = (List.map (fun x => x.fst) (kl (kf X) X.length [])).length)) then some (AV.tup [AV.slc 6 [] 0 0 2 (pairsF (kl (kf X) X.length []) (nl (fun i => [AV.int IntKind.i64 (nthZ (sortZ (List.map (fun x => x.fst) (kl (kf X) X.length []))) 
    i)]) (List.map (fun x => x.fst) (kl (kf X) X.length [])).length [])).length (pairsF (kl (kf X) X.length []) (nl (fun i => [AV.int IntKind.i64 (nthZ (sortZ (List.map (fun x => x.fst) (kl (kf X) X.length []))) i)]) (List.map (fun x => x.fst) (kl (kf X) X.length [])).length [])).length, AV.int IntKind.i64 (Int.ofNat 0)], some (Row.cells [AV.arr 2 (pairsF (kl (kf X) X.length []) (nl (fun i => [AV.int IntKind.i64 (nthZ (sortZ (List.map (fun x => x.fst) (kl (kf X) X.length []))) i)]) (List.map (fun x => x.fst) (kl (kf X) X.length [])).length [])).length (fun i => [AV.int IntKind.i64 ((pairsF (kl (kf X) X.length []) (nl (fun i => [AV.int IntKind.i64 (nthZ (sortZ (List.map (fun x => x.fst) (kl (kf X) X.length []))) i)]) (List.map (fun x => x.fst) (kl (kf X) X.length [])).length [])).getD i (0, 0)).fst, AV.int IntKind.i64 ((pairsF (kl (kf X) X.length []) (nl (fun i => [AV.int IntKind.i64 (nthZ 
    (sortZ (List.map (fun x => x.fst) (kl (kf X) X.length []))) i)]) (List.map (fun x => x.fst) (kl (kf X) X.length [])).length [])).getD i (0, 0)).snd]) []] true true)) else none else none else some (AV.tup [AV.raw (Value.slice none 0 0), AV.int IntKind.i64 (Int.ofNat 171)], none) else some (AV.tup [AV.raw (Value.slice none 0 0), AV.int IntKind.i64 (Int.ofNat 171)], none) else bif a == Int.ofNat 3 && (b == Int.ofNat 0 && (c == Int.ofNat 0 && true) && (d == Int.ofNat 0 && (e == Int.ofNat 0 && true))) then bif bif true then ptrB a2 b2 c2 d2 e2 else false then bif ((kl (kf X) X.length []).length * 8).ble 140737488355328 && allZ (kl (kf X) X.length []) then bif true && decide (Int.ofNat (List.map (fun x => x.fst) (kl (kf X) X.length [])).length = Int.ofNat (List.map (fun x => x.fst) (kl (kf X) X.length [])).length) && true && (List.map (fun x => x.fst) (kl (kf X) X.length [])).length.blt 
    1000000 && okN (fun i => [AV.int IntKind.i64 (nthZ (sortZ (List.map (fun x => x.fst) (kl (kf X) X.length []))) i)]) (List.map (fun x => x.fst) (kl (kf X) X.length [])).length [] && (decide ((List.map (fun x => x.fst) (kl (kf X) X.length [])).length = (List.map (fun x => x.fst) (kl (kf X) X.length [])).length) && decide ((List.map (fun x => x.fst) (kl (kf X) X.length [])).length = (List.map (fun x => x.fst) (kl (kf X) X.length [])).length)) then some (AV.tup [AV.slc 6 [] 0 0 2 (pairsF (kl (kf X) X.length []) (nl (fun i => [AV.int IntKind.i64 (nthZ (sortZ (List.map (fun x => x.fst) (kl (kf X) X.length []))) i)]) (List.map (fun x => x.fst) (kl (kf X) X.length [])).length [])).length (pairsF (kl (kf X) X.length []) (nl (fun i => [AV.int IntKind.i64 (nthZ (sortZ (List.map (fun x => x.fst) (kl (kf X) X.length []))) i)]) (List.map (fun x => x.fst) (kl (kf X) X.length [])).length [])).length, 
    AV.int IntKind.i64 (Int.ofNat 0)], some (Row.cells [AV.arr 2 (pairsF (kl (kf X) X.length []) (nl (fun i => [AV.int IntKind.i64 (nthZ (sortZ (List.map (fun x => x.fst) (kl (kf X) X.length []))) i)]) (List.map (fun x => x.fst) (kl (kf X) X.length [])).length [])).length (fun i => [AV.int IntKind.i64 ((pairsF (kl (kf X) X.length []) (nl (fun i => [AV.int IntKind.i64 (nthZ (sortZ (List.map (fun x => x.fst) (kl (kf X) X.length []))) i)]) (List.map (fun x => x.fst) (kl (kf X) X.length [])).length [])).getD i (0, 0)).fst, AV.int IntKind.i64 ((pairsF (kl (kf X) X.length []) (nl (fun i => [AV.int IntKind.i64 (nthZ (sortZ (List.map (fun x => x.fst) (kl (kf X) X.length []))) i)]) (List.map (fun x => x.fst) (kl (kf X) X.length [])).length [])).getD i (0, 0)).snd]) []] true true)) else none else none else some (AV.tup [AV.raw (Value.slice none 0 0), AV.int IntKind.i64 (Int.ofNat 171)], none) else 
    some (AV.tup [AV.raw (Value.slice none 0 0), AV.int IntKind.i64 (Int.ofNat 171)], none) else none) := by kernel_rfl
theorem evSho29f (X : List (Int × Int)) (a b c d e a2 b2 c2 d2 e2 : Int) : evFn Try.prog KCI LCI (regB Try.prog) 60 26 [.lst 2 (kf X) X.length [], .int .u8 29, .bool false, vB a b c d e, vB a2 b2 c2 d2 e2] ⟨0, []⟩ kSho =
  (bif okL (kf X) X.length [] then bif chkE (kl (kf X) X.length []) != Int.ofNat 0 then bif chkE (kl (kf X) X.length []) != Int.ofNat 0 then some (AV.tup [AV.raw (Value.slice none 0 0), AV.int IntKind.i64 (chkE (kl (kf X) X.length []))], none) else bif ptrB a b c d e then bif bif true then a2 == Int.ofNat 3 && (b2 == Int.ofNat 0 && (c2 == Int.ofNat 0 && true) && (d2 == Int.ofNat 0 && (e2 == Int.ofNat 0 && true))) else false then none else bif a == Int.ofNat 3 && (b == Int.ofNat 0 && (c == Int.ofNat 0 && true) && (d == Int.ofNat 0 && (e == Int.ofNat 0 && true))) then bif bif true then ptrB a2 b2 c2 d2 e2 else false then none else some (AV.tup [AV.raw (Value.slice none 0 0), AV.int IntKind.i64 (Int.ofNat 171)], none) else some (AV.tup [AV.raw (Value.slice none 0 0), AV.int IntKind.i64 (Int.ofNat 171)], none) else bif a == Int.ofNat 3 && (b == Int.ofNat 0 && (c == Int.ofNat 0 && true) && (d 
    == Int.ofNat 0 && (e == Int.ofNat 0 && true))) then bif bif true then ptrB a2 b2 c2 d2 e2 else false then none else some (AV.tup [AV.raw (Value.slice none 0 0), AV.int IntKind.i64 (Int.ofNat 171)], none) else some (AV.tup [AV.raw (Value.slice none 0 0), AV.int IntKind.i64 (Int.ofNat 171)], none) else bif ptrB a b c d e then bif bif true then a2 == Int.ofNat 3 && (b2 == Int.ofNat 0 && (c2 == Int.ofNat 0 && true) && (d2 == Int.ofNat 0 && (e2 == Int.ofNat 0 && true))) else false then bif ((kl (kf X) X.length []).length * 8).ble 140737488355328 && allZ (kl (kf X) X.length []) then bif true && decide (Int.ofNat (List.map (fun x => x.fst) (kl (kf X) X.length [])).length = Int.ofNat (List.map (fun x => x.fst) (kl (kf X) X.length [])).length) && true && (List.map (fun x => x.fst) (kl (kf X) X.length [])).length.blt 1000000 && okN (fun i => [AV.int IntKind.i64 (nthZ (sortZ (List.map (fun x => 
    x.fst) (kl (kf X) X.length []))) i)]) (List.map (fun x => x.fst) (kl (kf X) X.length [])).length [] && (decide ((List.map (fun x => x.fst) (kl (kf X) X.length [])).length = (List.map (fun x => x.fst) (kl (kf X) X.length [])).length) && decide ((List.map (fun x => x.fst) (kl (kf X) X.length [])).length = (List.map (fun x => x.fst) (kl (kf X) X.length [])).length)) then some (AV.tup [AV.slc 6 [] 0 0 2 (pairsF (kl (kf X) X.length []) (nl (fun i => [AV.int IntKind.i64 (nthZ (sortZ (List.map (fun x => x.fst) (kl (kf X) X.length []))) i)]) (List.map (fun x => x.fst) (kl (kf X) X.length [])).length [])).length (pairsF (kl (kf X) X.length []) (nl (fun i => [AV.int IntKind.i64 (nthZ (sortZ (List.map (fun x => x.fst) (kl (kf X) X.length []))) i)]) (List.map (fun x => x.fst) (kl (kf X) X.length [])).length [])).length, AV.int IntKind.i64 (Int.ofNat 0)], some (Row.cells [AV.arr 2 (pairsF (kl (kf X) 
    X.length []) (nl (fun i => [AV.int IntKind.i64 (nthZ (sortZ (List.map (fun x => x.fst) (kl (kf X) X.length []))) i)]) (List.map (fun x => x.fst) (kl (kf X) X.length [])).length [])).length (fun i => [AV.int IntKind.i64 ((pairsF (kl (kf X) X.length []) (nl (fun i => [AV.int IntKind.i64 (nthZ (sortZ (List.map (fun x => x.fst) (kl (kf X) X.length []))) i)]) (List.map (fun x => x.fst) (kl (kf X) X.length [])).length [])).getD i (0, 0)).fst, AV.int IntKind.i64 ((pairsF (kl (kf X) X.length []) (nl (fun i => [AV.int IntKind.i64 (nthZ (sortZ (List.map (fun x => x.fst) (kl (kf X) X.length []))) i)]) (List.map (fun x => x.fst) (kl (kf X) X.length [])).length [])).getD i (0, 0)).snd]) []] true true)) else none else none else bif a == Int.ofNat 3 && (b == Int.ofNat 0 && (c == Int.ofNat 0 && true) && (d == Int.ofNat 0 && (e == Int.ofNat 0 && true))) then bif bif true then ptrB a2 b2 c2 d2 e2 else 
    false then bif ((kl (kf X) X.length []).length * 8).ble 140737488355328 && allZ (kl (kf X) X.length []) then bif true && decide (Int.ofNat (List.map (fun x => x.fst) (kl (kf X) X.length [])).length = Int.ofNat (List.map (fun x => x.fst) (kl (kf X) X.length [])).length) && true && (List.map (fun x => x.fst) (kl (kf X) X.length [])).length.blt 1000000 && okN (fun i => [AV.int IntKind.i64 (nthZ (sortZ (List.map (fun x => x.fst) (kl (kf X) X.length []))) i)]) (List.map (fun x => x.fst) (kl (kf X) X.length [])).length [] && (decide ((List.map (fun x => x.fst) (kl (kf X) X.length [])).length = (List.map (fun x => x.fst) (kl (kf X) X.length [])).length) && decide ((List.map (fun x => x.fst) (kl (kf X) X.length [])).length = (List.map (fun x => x.fst) (kl (kf X) X.length [])).length)) then bif (add0 0 (pairsF (kl (kf X) X.length []) (nl (fun i => [AV.int IntKind.i64 (nthZ (sortZ (List.map (fun x 
    => x.fst) (kl (kf X) X.length []))) i)]) (List.map (fun x => x.fst) (kl (kf X) X.length [])).length [])).length).ble (pairsF (kl (kf X) X.length []) (nl (fun i => [AV.int IntKind.i64 (nthZ (sortZ (List.map (fun x => x.fst) (kl (kf X) X.length []))) i)]) (List.map (fun x => x.fst) (kl (kf X) X.length [])).length [])).length then bif okL (kf (pairsF (kl (kf X) X.length []) (nl (fun i => [AV.int IntKind.i64 (nthZ (sortZ (List.map (fun x => x.fst) (kl (kf X) X.length []))) i)]) (List.map (fun x => x.fst) (kl (kf X) X.length [])).length []))) (pairsF (kl (kf X) X.length []) (nl (fun i => [AV.int IntKind.i64 (nthZ (sortZ (List.map (fun x => x.fst) (kl (kf X) X.length []))) i)]) (List.map (fun x => x.fst) (kl (kf X) X.length [])).length [])).length [] then some (AV.tup [AV.slc 7 [] 0 0 2 (prvF (kl (kf (pairsF (kl (kf X) X.length []) (nl (fun i => [AV.int IntKind.i64 (nthZ (sortZ (List.map (fun 
    x => x.fst) (kl (kf X) X.length []))) i)]) (List.map (fun x => x.fst) (kl (kf X) X.length [])).length []))) (pairsF (kl (kf X) X.length []) (nl (fun i => [AV.int IntKind.i64 (nthZ (sortZ (List.map (fun x => x.fst) (kl (kf X) X.length []))) i)]) (List.map (fun x => x.fst) (kl (kf X) X.length [])).length [])).length []) d2 e2).fst.length (prvF (kl (kf (pairsF (kl (kf X) X.length []) (nl (fun i => [AV.int IntKind.i64 (nthZ (sortZ (List.map (fun x => x.fst) (kl (kf X) X.length []))) i)]) (List.map (fun x => x.fst) (kl (kf X) X.length [])).length []))) (pairsF (kl (kf X) X.length []) (nl (fun i => [AV.int IntKind.i64 (nthZ (sortZ (List.map (fun x => x.fst) (kl (kf X) X.length []))) i)]) (List.map (fun x => x.fst) (kl (kf X) X.length [])).length [])).length []) d2 e2).fst.length, AV.int IntKind.i64 (prvF (kl (kf (pairsF (kl (kf X) X.length []) (nl (fun i => [AV.int IntKind.i64 (nthZ (sortZ 
    (List.map (fun x => x.fst) (kl (kf X) X.length []))) i)]) (List.map (fun x => x.fst) (kl (kf X) X.length [])).length []))) (pairsF (kl (kf X) X.length []) (nl (fun i => [AV.int IntKind.i64 (nthZ (sortZ (List.map (fun x => x.fst) (kl (kf X) X.length []))) i)]) (List.map (fun x => x.fst) (kl (kf X) X.length [])).length [])).length []) d2 e2).snd], some (Row.cells [AV.arr 2 (prvF (kl (kf (pairsF (kl (kf X) X.length []) (nl (fun i => [AV.int IntKind.i64 (nthZ (sortZ (List.map (fun x => x.fst) (kl (kf X) X.length []))) i)]) (List.map (fun x => x.fst) (kl (kf X) X.length [])).length []))) (pairsF (kl (kf X) X.length []) (nl (fun i => [AV.int IntKind.i64 (nthZ (sortZ (List.map (fun x => x.fst) (kl (kf X) X.length []))) i)]) (List.map (fun x => x.fst) (kl (kf X) X.length [])).length [])).length []) d2 e2).fst.length (fun i => [AV.int IntKind.i64 ((prvF (kl (kf (pairsF (kl (kf X) X.length []) (nl 
    (fun i => [AV.int IntKind.i64 (nthZ (sortZ (List.map (fun x => x.fst) (kl (kf X) X.length []))) i)]) (List.map (fun x => x.fst) (kl (kf X) X.length [])).length []))) (pairsF (kl (kf X) X.length []) (nl (fun i => [AV.int IntKind.i64 (nthZ (sortZ (List.map (fun x => x.fst) (kl (kf X) X.length []))) i)]) (List.map (fun x => x.fst) (kl (kf X) X.length [])).length [])).length []) d2 e2).fst.getD i (0, 0)).fst, AV.int IntKind.i64 ((prvF (kl (kf (pairsF (kl (kf X) X.length []) (nl (fun i => [AV.int IntKind.i64 (nthZ (sortZ (List.map (fun x => x.fst) (kl (kf X) X.length []))) i)]) (List.map (fun x => x.fst) (kl (kf X) X.length [])).length []))) (pairsF (kl (kf X) X.length []) (nl (fun i => [AV.int IntKind.i64 (nthZ (sortZ (List.map (fun x => x.fst) (kl (kf X) X.length []))) i)]) (List.map (fun x => x.fst) (kl (kf X) X.length [])).length [])).length []) d2 e2).fst.getD i (0, 0)).snd]) []] true 
    true)) else none else none else none else none else some (AV.tup [AV.raw (Value.slice none 0 0), AV.int IntKind.i64 (Int.ofNat 171)], none) else some (AV.tup [AV.raw (Value.slice none 0 0), AV.int IntKind.i64 (Int.ofNat 171)], none) else bif a == Int.ofNat 3 && (b == Int.ofNat 0 && (c == Int.ofNat 0 && true) && (d == Int.ofNat 0 && (e == Int.ofNat 0 && true))) then bif bif true then ptrB a2 b2 c2 d2 e2 else false then bif ((kl (kf X) X.length []).length * 8).ble 140737488355328 && allZ (kl (kf X) X.length []) then bif true && decide (Int.ofNat (List.map (fun x => x.fst) (kl (kf X) X.length [])).length = Int.ofNat (List.map (fun x => x.fst) (kl (kf X) X.length [])).length) && true && (List.map (fun x => x.fst) (kl (kf X) X.length [])).length.blt 1000000 && okN (fun i => [AV.int IntKind.i64 (nthZ (sortZ (List.map (fun x => x.fst) (kl (kf X) X.length []))) i)]) (List.map (fun x => x.fst) 
    (kl (kf X) X.length [])).length [] && (decide ((List.map (fun x => x.fst) (kl (kf X) X.length [])).length = (List.map (fun x => x.fst) (kl (kf X) X.length [])).length) && decide ((List.map (fun x => x.fst) (kl (kf X) X.length [])).length = (List.map (fun x => x.fst) (kl (kf X) X.length [])).length)) then bif (add0 0 (pairsF (kl (kf X) X.length []) (nl (fun i => [AV.int IntKind.i64 (nthZ (sortZ (List.map (fun x => x.fst) (kl (kf X) X.length []))) i)]) (List.map (fun x => x.fst) (kl (kf X) X.length [])).length [])).length).ble (pairsF (kl (kf X) X.length []) (nl (fun i => [AV.int IntKind.i64 (nthZ (sortZ (List.map (fun x => x.fst) (kl (kf X) X.length []))) i)]) (List.map (fun x => x.fst) (kl (kf X) X.length [])).length [])).length then bif okL (kf (pairsF (kl (kf X) X.length []) (nl (fun i => [AV.int IntKind.i64 (nthZ (sortZ (List.map (fun x => x.fst) (kl (kf X) X.length []))) i)]) 
    (List.map (fun x => x.fst) (kl (kf X) X.length [])).length []))) (pairsF (kl (kf X) X.length []) (nl (fun i => [AV.int IntKind.i64 (nthZ (sortZ (List.map (fun x => x.fst) (kl (kf X) X.length []))) i)]) (List.map (fun x => x.fst) (kl (kf X) X.length [])).length [])).length [] then some (AV.tup [AV.slc 7 [] 0 0 2 (prvF (kl (kf (pairsF (kl (kf X) X.length []) (nl (fun i => [AV.int IntKind.i64 (nthZ (sortZ (List.map (fun x => x.fst) (kl (kf X) X.length []))) i)]) (List.map (fun x => x.fst) (kl (kf X) X.length [])).length []))) (pairsF (kl (kf X) X.length []) (nl (fun i => [AV.int IntKind.i64 (nthZ (sortZ (List.map (fun x => x.fst) (kl (kf X) X.length []))) i)]) (List.map (fun x => x.fst) (kl (kf X) X.length [])).length [])).length []) d2 e2).fst.length (prvF (kl (kf (pairsF (kl (kf X) X.length []) (nl (fun i => [AV.int IntKind.i64 (nthZ (sortZ (List.map (fun x => x.fst) (kl (kf X) X.length 
    []))) i)]) (List.map (fun x => x.fst) (kl (kf X) X.length [])).length []))) (pairsF (kl (kf X) X.length []) (nl (fun i => [AV.int IntKind.i64 (nthZ (sortZ (List.map (fun x => x.fst) (kl (kf X) X.length []))) i)]) (List.map (fun x => x.fst) (kl (kf X) X.length [])).length [])).length []) d2 e2).fst.length, AV.int IntKind.i64 (prvF (kl (kf (pairsF (kl (kf X) X.length []) (nl (fun i => [AV.int IntKind.i64 (nthZ (sortZ (List.map (fun x => x.fst) (kl (kf X) X.length []))) i)]) (List.map (fun x => x.fst) (kl (kf X) X.length [])).length []))) (pairsF (kl (kf X) X.length []) (nl (fun i => [AV.int IntKind.i64 (nthZ (sortZ (List.map (fun x => x.fst) (kl (kf X) X.length []))) i)]) (List.map (fun x => x.fst) (kl (kf X) X.length [])).length [])).length []) d2 e2).snd], some (Row.cells [AV.arr 2 (prvF (kl (kf (pairsF (kl (kf X) X.length []) (nl (fun i => [AV.int IntKind.i64 (nthZ (sortZ (List.map (fun 
    x => x.fst) (kl (kf X) X.length []))) i)]) (List.map (fun x => x.fst) (kl (kf X) X.length [])).length []))) (pairsF (kl (kf X) X.length []) (nl (fun i => [AV.int IntKind.i64 (nthZ (sortZ (List.map (fun x => x.fst) (kl (kf X) X.length []))) i)]) (List.map (fun x => x.fst) (kl (kf X) X.length [])).length [])).length []) d2 e2).fst.length (fun i => [AV.int IntKind.i64 ((prvF (kl (kf (pairsF (kl (kf X) X.length []) (nl (fun i => [AV.int IntKind.i64 (nthZ (sortZ (List.map (fun x => x.fst) (kl (kf X) X.length []))) i)]) (List.map (fun x => x.fst) (kl (kf X) X.length [])).length []))) (pairsF (kl (kf X) X.length []) (nl (fun i => [AV.int IntKind.i64 (nthZ (sortZ (List.map (fun x => x.fst) (kl (kf X) X.length []))) i)]) (List.map (fun x => x.fst) (kl (kf X) X.length [])).length [])).length []) d2 e2).fst.getD i (0, 0)).fst, AV.int IntKind.i64 ((prvF (kl (kf (pairsF (kl (kf X) X.length []) (nl 
    (fun i => [AV.int IntKind.i64 (nthZ (sortZ (List.map (fun x => x.fst) (kl (kf X) X.length []))) i)]) (List.map (fun x => x.fst) (kl (kf X) X.length [])).length []))) (pairsF (kl (kf X) X.length []) (nl (fun i => [AV.int IntKind.i64 (nthZ (sortZ (List.map (fun x => x.fst) (kl (kf X) X.length []))) i)]) (List.map (fun x => x.fst) (kl (kf X) X.length [])).length [])).length []) d2 e2).fst.getD i (0, 0)).snd]) []] true true)) else none else none else none else none else some (AV.tup [AV.raw (Value.slice none 0 0), AV.int IntKind.i64 (Int.ofNat 171)], none) else some (AV.tup [AV.raw (Value.slice none 0 0), AV.int IntKind.i64 (Int.ofNat 171)], none) else none) := by kernel_rfl
theorem evSho30t (X : List (Int × Int)) (a b c d e a2 b2 c2 d2 e2 : Int) : evFn Try.prog KCI LCI (regB Try.prog) 60 26 [.lst 2 (kf X) X.length [], .int .u8 30, .bool true, vB a b c d e, vB a2 b2 c2 d2 e2] ⟨0, []⟩ kSho =
  (bif okL (kf X) X.length [] then bif chkE (kl (kf X) X.length []) != Int.ofNat 0 then bif chkE (kl (kf X) X.length []) != Int.ofNat 0 then some (AV.tup [AV.raw (Value.slice none 0 0), AV.int IntKind.i64 (chkE (kl (kf X) X.length []))], none) else bif ptrB a b c d e then bif bif true then a2 == Int.ofNat 3 && (b2 == Int.ofNat 0 && (c2 == Int.ofNat 0 && true) && (d2 == Int.ofNat 0 && (e2 == Int.ofNat 0 && true))) else false then none else bif a == Int.ofNat 3 && (b == Int.ofNat 0 && (c == Int.ofNat 0 && true) && (d == Int.ofNat 0 && (e == Int.ofNat 0 && true))) then bif bif true then ptrB a2 b2 c2 d2 e2 else false then none else some (AV.tup [AV.raw (Value.slice none 0 0), AV.int IntKind.i64 (Int.ofNat 171)], none) else some (AV.tup [AV.raw (Value.slice none 0 0), AV.int IntKind.i64 (Int.ofNat 171)], none) else bif a == Int.ofNat 3 && (b == Int.ofNat 0 && (c == Int.ofNat 0 && true) && (d 
    == Int.ofNat 0 && (e == Int.ofNat 0 && true))) then bif bif true then ptrB a2 b2 c2 d2 e2 else false then none else some (AV.tup [AV.raw (Value.slice none 0 0), AV.int IntKind.i64 (Int.ofNat 171)], none) else some (AV.tup [AV.raw (Value.slice none 0 0), AV.int IntKind.i64 (Int.ofNat 171)], none) else bif ptrB a b c d e then bif bif true then a2 == Int.ofNat 3 && (b2 == Int.ofNat 0 && (c2 == Int.ofNat 0 && true) && (d2 == Int.ofNat 0 && (e2 == Int.ofNat 0 && true))) else false then bif ((kl (kf X) X.length []).length * 8).ble 140737488355328 && allZ (kl (kf X) X.length []) then bif true && decide (Int.ofNat (List.map (fun x => x.fst) (kl (kf X) X.length [])).length = Int.ofNat (List.map (fun x => x.fst) (kl (kf X) X.length [])).length) && true && (List.map (fun x => x.fst) (kl (kf X) X.length [])).length.blt 1000000 && okN (fun i => [AV.int IntKind.i64 (nthZ (sortZ (List.map (fun x => 
    x.fst) (kl (kf X) X.length []))) i)]) (List.map (fun x => x.fst) (kl (kf X) X.length [])).length [] && (decide ((List.map (fun x => x.fst) (kl (kf X) X.length [])).length = (List.map (fun x => x.fst) (kl (kf X) X.length [])).length) && decide ((List.map (fun x => x.fst) (kl (kf X) X.length [])).length = (List.map (fun x => x.fst) (kl (kf X) X.length [])).length)) then bif (add0 0 (pairsF (kl (kf X) X.length []) (nl (fun i => [AV.int IntKind.i64 (nthZ (sortZ (List.map (fun x => x.fst) (kl (kf X) X.length []))) i)]) (List.map (fun x => x.fst) (kl (kf X) X.length [])).length [])).length).ble (pairsF (kl (kf X) X.length []) (nl (fun i => [AV.int IntKind.i64 (nthZ (sortZ (List.map (fun x => x.fst) (kl (kf X) X.length []))) i)]) (List.map (fun x => x.fst) (kl (kf X) X.length [])).length [])).length then bif okL (kf (pairsF (kl (kf X) X.length []) (nl (fun i => [AV.int IntKind.i64 (nthZ (sortZ 
    (List.map (fun x => x.fst) (kl (kf X) X.length []))) i)]) (List.map (fun x => x.fst) (kl (kf X) X.length [])).length []))) (pairsF (kl (kf X) X.length []) (nl (fun i => [AV.int IntKind.i64 (nthZ (sortZ (List.map (fun x => x.fst) (kl (kf X) X.length []))) i)]) (List.map (fun x => x.fst) (kl (kf X) X.length [])).length [])).length [] then some (AV.tup [AV.slc 7 [] 0 0 2 (prvF (kl (kf (pairsF (kl (kf X) X.length []) (nl (fun i => [AV.int IntKind.i64 (nthZ (sortZ (List.map (fun x => x.fst) (kl (kf X) X.length []))) i)]) (List.map (fun x => x.fst) (kl (kf X) X.length [])).length []))) (pairsF (kl (kf X) X.length []) (nl (fun i => [AV.int IntKind.i64 (nthZ (sortZ (List.map (fun x => x.fst) (kl (kf X) X.length []))) i)]) (List.map (fun x => x.fst) (kl (kf X) X.length [])).length [])).length []) d e).fst.length (prvF (kl (kf (pairsF (kl (kf X) X.length []) (nl (fun i => [AV.int IntKind.i64 (nthZ 
    (sortZ (List.map (fun x => x.fst) (kl (kf X) X.length []))) i)]) (List.map (fun x => x.fst) (kl (kf X) X.length [])).length []))) (pairsF (kl (kf X) X.length []) (nl (fun i => [AV.int IntKind.i64 (nthZ (sortZ (List.map (fun x => x.fst) (kl (kf X) X.length []))) i)]) (List.map (fun x => x.fst) (kl (kf X) X.length [])).length [])).length []) d e).fst.length, AV.int IntKind.i64 (prvF (kl (kf (pairsF (kl (kf X) X.length []) (nl (fun i => [AV.int IntKind.i64 (nthZ (sortZ (List.map (fun x => x.fst) (kl (kf X) X.length []))) i)]) (List.map (fun x => x.fst) (kl (kf X) X.length [])).length []))) (pairsF (kl (kf X) X.length []) (nl (fun i => [AV.int IntKind.i64 (nthZ (sortZ (List.map (fun x => x.fst) (kl (kf X) X.length []))) i)]) (List.map (fun x => x.fst) (kl (kf X) X.length [])).length [])).length []) d e).snd], some (Row.cells [AV.arr 2 (prvF (kl (kf (pairsF (kl (kf X) X.length []) (nl (fun i 
    => [AV.int IntKind.i64 (nthZ (sortZ (List.map (fun x => x.fst) (kl (kf X) X.length []))) i)]) (List.map (fun x => x.fst) (kl (kf X) X.length [])).length []))) (pairsF (kl (kf X) X.length []) (nl (fun i => [AV.int IntKind.i64 (nthZ (sortZ (List.map (fun x => x.fst) (kl (kf X) X.length []))) i)]) (List.map (fun x => x.fst) (kl (kf X) X.length [])).length [])).length []) d e).fst.length (fun i => [AV.int IntKind.i64 ((prvF (kl (kf (pairsF (kl (kf X) X.length []) (nl (fun i => [AV.int IntKind.i64 (nthZ (sortZ (List.map (fun x => x.fst) (kl (kf X) X.length []))) i)]) (List.map (fun x => x.fst) (kl (kf X) X.length [])).length []))) (pairsF (kl (kf X) X.length []) (nl (fun i => [AV.int IntKind.i64 (nthZ (sortZ (List.map (fun x => x.fst) (kl (kf X) X.length []))) i)]) (List.map (fun x => x.fst) (kl (kf X) X.length [])).length [])).length []) d e).fst.getD i (0, 0)).fst, AV.int IntKind.i64 ((prvF 
    (kl (kf (pairsF (kl (kf X) X.length []) (nl (fun i => [AV.int IntKind.i64 (nthZ (sortZ (List.map (fun x => x.fst) (kl (kf X) X.length []))) i)]) (List.map (fun x => x.fst) (kl (kf X) X.length [])).length []))) (pairsF (kl (kf X) X.length []) (nl (fun i => [AV.int IntKind.i64 (nthZ (sortZ (List.map (fun x => x.fst) (kl (kf X) X.length []))) i)]) (List.map (fun x => x.fst) (kl (kf X) X.length [])).length [])).length []) d e).fst.getD i (0, 0)).snd]) []] true true)) else none else none else none else none else bif a == Int.ofNat 3 && (b == Int.ofNat 0 && (c == Int.ofNat 0 && true) && (d == Int.ofNat 0 && (e == Int.ofNat 0 && true))) then bif bif true then ptrB a2 b2 c2 d2 e2 else false then bif ((kl (kf X) X.length []).length * 8).ble 140737488355328 && allZ (kl (kf X) X.length []) then bif true && decide (Int.ofNat (List.map (fun x => x.fst) (kl (kf X) X.length [])).length = Int.ofNat 
    (List.map (fun x => x.fst) (kl (kf X) X.length [])).length) && true && (List.map (fun x => x.fst) (kl (kf X) X.length [])).length.blt 1000000 && okN (fun i => [AV.int IntKind.i64 (nthZ (sortZ (List.map (fun x => x.fst) (kl (kf X) X.length []))) i)]) (List.map (fun x => x.fst) (kl (kf X) X.length [])).length [] && (decide ((List.map (fun x => x.fst) (kl (kf X) X.length [])).length = (List.map (fun x => x.fst) (kl (kf X) X.length [])).length) && decide ((List.map (fun x => x.fst) (kl (kf X) X.length [])).length = (List.map (fun x => x.fst) (kl (kf X) X.length [])).length)) then some (AV.tup [AV.slc 6 [] 0 0 2 (pairsF (kl (kf X) X.length []) (nl (fun i => [AV.int IntKind.i64 (nthZ (sortZ (List.map (fun x => x.fst) (kl (kf X) X.length []))) i)]) (List.map (fun x => x.fst) (kl (kf X) X.length [])).length [])).length (pairsF (kl (kf X) X.length []) (nl (fun i => [AV.int IntKind.i64 (nthZ 
    (sortZ (List.map (fun x => x.fst) (kl (kf X) X.length []))) i)]) (List.map (fun x => x.fst) (kl (kf X) X.length [])).length [])).length, AV.int IntKind.i64 (Int.ofNat 0)], some (Row.cells [AV.arr 2 (pairsF (kl (kf X) X.length []) (nl (fun i => [AV.int IntKind.i64 (nthZ (sortZ (List.map (fun x => x.fst) (kl (kf X) X.length []))) i)]) (List.map (fun x => x.fst) (kl (kf X) X.length [])).length [])).length (fun i => [AV.int IntKind.i64 ((pairsF (kl (kf X) X.length []) (nl (fun i => [AV.int IntKind.i64 (nthZ (sortZ (List.map (fun x => x.fst) (kl (kf X) X.length []))) i)]) (List.map (fun x => x.fst) (kl (kf X) X.length [])).length [])).getD i (0, 0)).fst, AV.int IntKind.i64 ((pairsF (kl (kf X) X.length []) (nl (fun i => [AV.int IntKind.i64 (nthZ (sortZ (List.map (fun x => x.fst) (kl (kf X) X.length []))) i)]) (List.map (fun x => x.fst) (kl (kf X) X.length [])).length [])).getD i (0, 0)).snd]) 
    []] true true)) else none else none else some (AV.tup [AV.raw (Value.slice none 0 0), AV.int IntKind.i64 (Int.ofNat 171)], none) else some (AV.tup [AV.raw (Value.slice none 0 0), AV.int IntKind.i64 (Int.ofNat 171)], none) else bif a == Int.ofNat 3 && (b == Int.ofNat 0 && (c == Int.ofNat 0 && true) && (d == Int.ofNat 0 && (e == Int.ofNat 0 && true))) then bif bif true then ptrB a2 b2 c2 d2 e2 else false then bif ((kl (kf X) X.length []).length * 8).ble 140737488355328 && allZ (kl (kf X) X.length []) then bif true && decide (Int.ofNat (List.map (fun x => x.fst) (kl (kf X) X.length [])).length = Int.ofNat (List.map (fun x => x.fst) (kl (kf X) X.length [])).length) && true && (List.map (fun x => x.fst) (kl (kf X) X.length [])).length.blt 1000000 && okN (fun i => [AV.int IntKind.i64 (nthZ (sortZ (List.map (fun x => x.fst) (kl (kf X) X.length []))) i)]) (List.map (fun x => x.fst) (kl (kf X) 
    X.length [])).length [] && (decide ((List.map (fun x => x.fst) (kl (kf X) X.length [])).length = (List.map (fun x => x.fst) (kl (kf X) X.length [])).length) && decide ((List.map (fun x => x.fst) (kl (kf X) X.length [])).length = (List.map (fun x => x.fst) (kl (kf X) X.length [])).length)) then some (AV.tup [AV.slc 6 [] 0 0 2 (pairsF (kl (kf X) X.length []) (nl (fun i => [AV.int IntKind.i64 (nthZ (sortZ (List.map (fun x => x.fst) (kl (kf X) X.length []))) i)]) (List.map (fun x => x.fst) (kl (kf X) X.length [])).length [])).length (pairsF (kl (kf X) X.length []) (nl (fun i => [AV.int IntKind.i64 (nthZ (sortZ (List.map (fun x => x.fst) (kl (kf X) X.length []))) i)]) (List.map (fun x => x.fst) (kl (kf X) X.length [])).length [])).length, AV.int IntKind.i64 (Int.ofNat 0)], some (Row.cells [AV.arr 2 (pairsF (kl (kf X) X.length []) (nl (fun i => [AV.int IntKind.i64 (nthZ (sortZ (List.map (fun x 
    => x.fst) (kl (kf X) X.length []))) i)]) (List.map (fun x => x.fst) (kl (kf X) X.length [])).length [])).length (fun i => [AV.int IntKind.i64 ((pairsF (kl (kf X) X.length []) (nl (fun i => [AV.int IntKind.i64 (nthZ (sortZ (List.map (fun x => x.fst) (kl (kf X) X.length []))) i)]) (List.map (fun x => x.fst) (kl (kf X) X.length [])).length [])).getD i (0, 0)).fst, AV.int IntKind.i64 ((pairsF (kl (kf X) X.length []) (nl (fun i => [AV.int IntKind.i64 (nthZ (sortZ (List.map (fun x => x.fst) (kl (kf X) X.length []))) i)]) (List.map (fun x => x.fst) (kl (kf X) X.length [])).length [])).getD i (0, 0)).snd]) []] true true)) else none else none else some (AV.tup [AV.raw (Value.slice none 0 0), AV.int IntKind.i64 (Int.ofNat 171)], none) else some (AV.tup [AV.raw (Value.slice none 0 0), AV.int IntKind.i64 (Int.ofNat 171)], none) else none) := by kernel_rfl
theorem evSho30f (X : List (Int × Int)) (a b c d e a2 b2 c2 d2 e2 : Int) : evFn Try.prog KCI LCI (regB Try.prog) 60 26 [.lst 2 (kf X) X.length [], .int .u8 30, .bool false, vB a b c d e, vB a2 b2 c2 d2 e2] ⟨0, []⟩ kSho =
  (bif okL (kf X) X.length [] then bif chkE (kl (kf X) X.length []) != Int.ofNat 0 then bif chkE (kl (kf X) X.length []) != Int.ofNat 0 then some (AV.tup [AV.raw (Value.slice none 0 0), AV.int IntKind.i64 (chkE (kl (kf X) X.length []))], none) else bif ptrB a b c d e then bif bif true then a2 == Int.ofNat 3 && (b2 == Int.ofNat 0 && (c2 == Int.ofNat 0 && true) && (d2 == Int.ofNat 0 && (e2 == Int.ofNat 0 && true))) else false then none else bif a == Int.ofNat 3 && (b == Int.ofNat 0 && (c == Int.ofNat 0 && true) && (d == Int.ofNat 0 && (e == Int.ofNat 0 && true))) then bif bif true then ptrB a2 b2 c2 d2 e2 else false then none else some (AV.tup [AV.raw (Value.slice none 0 0), AV.int IntKind.i64 (Int.ofNat 171)], none) else some (AV.tup [AV.raw (Value.slice none 0 0), AV.int IntKind.i64 (Int.ofNat 171)], none) else bif a == Int.ofNat 3 && (b == Int.ofNat 0 && (c == Int.ofNat 0 && true) && (d 
    == Int.ofNat 0 && (e == Int.ofNat 0 && true))) then bif bif true then ptrB a2 b2 c2 d2 e2 else false then none else some (AV.tup [AV.raw (Value.slice none 0 0), AV.int IntKind.i64 (Int.ofNat 171)], none) else some (AV.tup [AV.raw (Value.slice none 0 0), AV.int IntKind.i64 (Int.ofNat 171)], none) else bif ptrB a b c d e then bif bif true then a2 == Int.ofNat 3 && (b2 == Int.ofNat 0 && (c2 == Int.ofNat 0 && true) && (d2 == Int.ofNat 0 && (e2 == Int.ofNat 0 && true))) else false then bif ((kl (kf X) X.length []).length * 8).ble 140737488355328 && allZ (kl (kf X) X.length []) then bif true && decide (Int.ofNat (List.map (fun x => x.fst) (kl (kf X) X.length [])).length = Int.ofNat (List.map (fun x => x.fst) (kl (kf X) X.length [])).length) && true && (List.map (fun x => x.fst) (kl (kf X) X.length [])).length.blt 1000000 && okN (fun i => [AV.int IntKind.i64 (nthZ (sortZ (List.map (fun x => 
    x.fst) (kl (kf X) X.length []))) i)]) (List.map (fun x => x.fst) (kl (kf X) X.length [])).length [] && (decide ((List.map (fun x => x.fst) (kl (kf X) X.length [])).length = (List.map (fun x => x.fst) (kl (kf X) X.length [])).length) && decide ((List.map (fun x => x.fst) (kl (kf X) X.length [])).length = (List.map (fun x => x.fst) (kl (kf X) X.length [])).length)) then some (AV.tup [AV.slc 6 [] 0 0 2 (pairsF (kl (kf X) X.length []) (nl (fun i => [AV.int IntKind.i64 (nthZ (sortZ (List.map (fun x => x.fst) (kl (kf X) X.length []))) i)]) (List.map (fun x => x.fst) (kl (kf X) X.length [])).length [])).length (pairsF (kl (kf X) X.length []) (nl (fun i => [AV.int IntKind.i64 (nthZ (sortZ (List.map (fun x => x.fst) (kl (kf X) X.length []))) i)]) (List.map (fun x => x.fst) (kl (kf X) X.length [])).length [])).length, AV.int IntKind.i64 (Int.ofNat 0)], some (Row.cells [AV.arr 2 (pairsF (kl (kf X) 
    X.length []) (nl (fun i => [AV.int IntKind.i64 (nthZ (sortZ (List.map (fun x => x.fst) (kl (kf X) X.length []))) i)]) (List.map (fun x => x.fst) (kl (kf X) X.length [])).length [])).length (fun i => [AV.int IntKind.i64 ((pairsF (kl (kf X) X.length []) (nl (fun i => [AV.int IntKind.i64 (nthZ (sortZ (List.map (fun x => x.fst) (kl (kf X) X.length []))) i)]) (List.map (fun x => x.fst) (kl (kf X) X.length [])).length [])).getD i (0, 0)).fst, AV.int IntKind.i64 ((pairsF (kl (kf X) X.length []) (nl (fun i => [AV.int IntKind.i64 (nthZ (sortZ (List.map (fun x => x.fst) (kl (kf X) X.length []))) i)]) (List.map (fun x => x.fst) (kl (kf X) X.length [])).length [])).getD i (0, 0)).snd]) []] true true)) else none else none else bif a == Int.ofNat 3 && (b == Int.ofNat 0 && (c == Int.ofNat 0 && true) && (d == Int.ofNat 0 && (e == Int.ofNat 0 && true))) then bif bif true then ptrB a2 b2 c2 d2 e2 else 
    false then bif ((kl (kf X) X.length []).length * 8).ble 140737488355328 && allZ (kl (kf X) X.length []) then bif true && decide (Int.ofNat (List.map (fun x => x.fst) (kl (kf X) X.length [])).length = Int.ofNat (List.map (fun x => x.fst) (kl (kf X) X.length [])).length) && true && (List.map (fun x => x.fst) (kl (kf X) X.length [])).length.blt 1000000 && okN (fun i => [AV.int IntKind.i64 (nthZ (sortZ (List.map (fun x => x.fst) (kl (kf X) X.length []))) i)]) (List.map (fun x => x.fst) (kl (kf X) X.length [])).length [] && (decide ((List.map (fun x => x.fst) (kl (kf X) X.length [])).length = (List.map (fun x => x.fst) (kl (kf X) X.length [])).length) && decide ((List.map (fun x => x.fst) (kl (kf X) X.length [])).length = (List.map (fun x => x.fst) (kl (kf X) X.length [])).length)) then bif (add0 0 (pairsF (kl (kf X) X.length []) (nl (fun i => [AV.int IntKind.i64 (nthZ (sortZ (List.map (fun x 
    => x.fst) (kl (kf X) X.length []))) i)]) (List.map (fun x => x.fst) (kl (kf X) X.length [])).length [])).length).ble (pairsF (kl (kf X) X.length []) (nl (fun i => [AV.int IntKind.i64 (nthZ (sortZ (List.map (fun x => x.fst) (kl (kf X) X.length []))) i)]) (List.map (fun x => x.fst) (kl (kf X) X.length [])).length [])).length then bif okL (kf (pairsF (kl (kf X) X.length []) (nl (fun i => [AV.int IntKind.i64 (nthZ (sortZ (List.map (fun x => x.fst) (kl (kf X) X.length []))) i)]) (List.map (fun x => x.fst) (kl (kf X) X.length [])).length []))) (pairsF (kl (kf X) X.length []) (nl (fun i => [AV.int IntKind.i64 (nthZ (sortZ (List.map (fun x => x.fst) (kl (kf X) X.length []))) i)]) (List.map (fun x => x.fst) (kl (kf X) X.length [])).length [])).length [] then some (AV.tup [AV.slc 7 [] 0 0 2 (prvF (kl (kf (pairsF (kl (kf X) X.length []) (nl (fun i => [AV.int IntKind.i64 (nthZ (sortZ (List.map (fun 
    x => x.fst) (kl (kf X) X.length []))) i)]) (List.map (fun x => x.fst) (kl (kf X) X.length [])).length []))) (pairsF (kl (kf X) X.length []) (nl (fun i => [AV.int IntKind.i64 (nthZ (sortZ (List.map (fun x => x.fst) (kl (kf X) X.length []))) i)]) (List.map (fun x => x.fst) (kl (kf X) X.length [])).length [])).length []) d2 (IntKind.i64.wrap (e2 + 1))).fst.length (prvF (kl (kf (pairsF (kl (kf X) X.length []) (nl (fun i => [AV.int IntKind.i64 (nthZ (sortZ (List.map (fun x => x.fst) (kl (kf X) X.length []))) i)]) (List.map (fun x => x.fst) (kl (kf X) X.length [])).length []))) (pairsF (kl (kf X) X.length []) (nl (fun i => [AV.int IntKind.i64 (nthZ (sortZ (List.map (fun x => x.fst) (kl (kf X) X.length []))) i)]) (List.map (fun x => x.fst) (kl (kf X) X.length [])).length [])).length []) d2 (IntKind.i64.wrap (e2 + 1))).fst.length, AV.int IntKind.i64 (prvF (kl (kf (pairsF (kl (kf X) X.length []) 
    (nl (fun i => [AV.int IntKind.i64 (nthZ (sortZ (List.map (fun x => x.fst) (kl (kf X) X.length []))) i)]) (List.map (fun x => x.fst) (kl (kf X) X.length [])).length []))) (pairsF (kl (kf X) X.length []) (nl (fun i => [AV.int IntKind.i64 (nthZ (sortZ (List.map (fun x => x.fst) (kl (kf X) X.length []))) i)]) (List.map (fun x => x.fst) (kl (kf X) X.length [])).length [])).length []) d2 (IntKind.i64.wrap (e2 + 1))).snd], some (Row.cells [AV.arr 2 (prvF (kl (kf (pairsF (kl (kf X) X.length []) (nl (fun i => [AV.int IntKind.i64 (nthZ (sortZ (List.map (fun x => x.fst) (kl (kf X) X.length []))) i)]) (List.map (fun x => x.fst) (kl (kf X) X.length [])).length []))) (pairsF (kl (kf X) X.length []) (nl (fun i => [AV.int IntKind.i64 (nthZ (sortZ (List.map (fun x => x.fst) (kl (kf X) X.length []))) i)]) (List.map (fun x => x.fst) (kl (kf X) X.length [])).length [])).length []) d2 (IntKind.i64.wrap (e2 + 
    1))).fst.length (fun i => [AV.int IntKind.i64 ((prvF (kl (kf (pairsF (kl (kf X) X.length []) (nl (fun i => [AV.int IntKind.i64 (nthZ (sortZ (List.map (fun x => x.fst) (kl (kf X) X.length []))) i)]) (List.map (fun x => x.fst) (kl (kf X) X.length [])).length []))) (pairsF (kl (kf X) X.length []) (nl (fun i => [AV.int IntKind.i64 (nthZ (sortZ (List.map (fun x => x.fst) (kl (kf X) X.length []))) i)]) (List.map (fun x => x.fst) (kl (kf X) X.length [])).length [])).length []) d2 (IntKind.i64.wrap (e2 + 1))).fst.getD i (0, 0)).fst, AV.int IntKind.i64 ((prvF (kl (kf (pairsF (kl (kf X) X.length []) (nl (fun i => [AV.int IntKind.i64 (nthZ (sortZ (List.map (fun x => x.fst) (kl (kf X) X.length []))) i)]) (List.map (fun x => x.fst) (kl (kf X) X.length [])).length []))) (pairsF (kl (kf X) X.length []) (nl (fun i => [AV.int IntKind.i64 (nthZ (sortZ (List.map (fun x => x.fst) (kl (kf X) X.length []))) 
    i)]) (List.map (fun x => x.fst) (kl (kf X) X.length [])).length [])).length []) d2 (IntKind.i64.wrap (e2 + 1))).fst.getD i (0, 0)).snd]) []] true true)) else none else none else none else none else some (AV.tup [AV.raw (Value.slice none 0 0), AV.int IntKind.i64 (Int.ofNat 171)], none) else some (AV.tup [AV.raw (Value.slice none 0 0), AV.int IntKind.i64 (Int.ofNat 171)], none) else bif a == Int.ofNat 3 && (b == Int.ofNat 0 && (c == Int.ofNat 0 && true) && (d == Int.ofNat 0 && (e == Int.ofNat 0 && true))) then bif bif true then ptrB a2 b2 c2 d2 e2 else false then bif ((kl (kf X) X.length []).length * 8).ble 140737488355328 && allZ (kl (kf X) X.length []) then bif true && decide (Int.ofNat (List.map (fun x => x.fst) (kl (kf X) X.length [])).length = Int.ofNat (List.map (fun x => x.fst) (kl (kf X) X.length [])).length) && true && (List.map (fun x => x.fst) (kl (kf X) X.length [])).length.blt 
    1000000 && okN (fun i => [AV.int IntKind.i64 (nthZ (sortZ (List.map (fun x => x.fst) (kl (kf X) X.length []))) i)]) (List.map (fun x => x.fst) (kl (kf X) X.length [])).length [] && (decide ((List.map (fun x => x.fst) (kl (kf X) X.length [])).length = (List.map (fun x => x.fst) (kl (kf X) X.length [])).length) && decide ((List.map (fun x => x.fst) (kl (kf X) X.length [])).length = (List.map (fun x => x.fst) (kl (kf X) X.length [])).length)) then bif (add0 0 (pairsF (kl (kf X) X.length []) (nl (fun i => [AV.int IntKind.i64 (nthZ (sortZ (List.map (fun x => x.fst) (kl (kf X) X.length []))) i)]) (List.map (fun x => x.fst) (kl (kf X) X.length [])).length [])).length).ble (pairsF (kl (kf X) X.length []) (nl (fun i => [AV.int IntKind.i64 (nthZ (sortZ (List.map (fun x => x.fst) (kl (kf X) X.length []))) i)]) (List.map (fun x => x.fst) (kl (kf X) X.length [])).length [])).length then bif okL (kf 
    (pairsF (kl (kf X) X.length []) (nl (fun i => [AV.int IntKind.i64 (nthZ (sortZ (List.map (fun x => x.fst) (kl (kf X) X.length []))) i)]) (List.map (fun x => x.fst) (kl (kf X) X.length [])).length []))) (pairsF (kl (kf X) X.length []) (nl (fun i => [AV.int IntKind.i64 (nthZ (sortZ (List.map (fun x => x.fst) (kl (kf X) X.length []))) i)]) (List.map (fun x => x.fst) (kl (kf X) X.length [])).length [])).length [] then some (AV.tup [AV.slc 7 [] 0 0 2 (prvF (kl (kf (pairsF (kl (kf X) X.length []) (nl (fun i => [AV.int IntKind.i64 (nthZ (sortZ (List.map (fun x => x.fst) (kl (kf X) X.length []))) i)]) (List.map (fun x => x.fst) (kl (kf X) X.length [])).length []))) (pairsF (kl (kf X) X.length []) (nl (fun i => [AV.int IntKind.i64 (nthZ (sortZ (List.map (fun x => x.fst) (kl (kf X) X.length []))) i)]) (List.map (fun x => x.fst) (kl (kf X) X.length [])).length [])).length []) d2 (IntKind.i64.wrap 
    (e2 + 1))).fst.length (prvF (kl (kf (pairsF (kl (kf X) X.length []) (nl (fun i => [AV.int IntKind.i64 (nthZ (sortZ (List.map (fun x => x.fst) (kl (kf X) X.length []))) i)]) (List.map (fun x => x.fst) (kl (kf X) X.length [])).length []))) (pairsF (kl (kf X) X.length []) (nl (fun i => [AV.int IntKind.i64 (nthZ (sortZ (List.map (fun x => x.fst) (kl (kf X) X.length []))) i)]) (List.map (fun x => x.fst) (kl (kf X) X.length [])).length [])).length []) d2 (IntKind.i64.wrap (e2 + 1))).fst.length, AV.int IntKind.i64 (prvF (kl (kf (pairsF (kl (kf X) X.length []) (nl (fun i => [AV.int IntKind.i64 (nthZ (sortZ (List.map (fun x => x.fst) (kl (kf X) X.length []))) i)]) (List.map (fun x => x.fst) (kl (kf X) X.length [])).length []))) (pairsF (kl (kf X) X.length []) (nl (fun i => [AV.int IntKind.i64 (nthZ (sortZ (List.map (fun x => x.fst) (kl (kf X) X.length []))) i)]) (List.map (fun x => x.fst) (kl (kf 
    X) X.length [])).length [])).length []) d2 (IntKind.i64.wrap (e2 + 1))).snd], some (Row.cells [AV.arr 2 (prvF (kl (kf (pairsF (kl (kf X) X.length []) (nl (fun i => [AV.int IntKind.i64 (nthZ (sortZ (List.map (fun x => x.fst) (kl (kf X) X.length []))) i)]) (List.map (fun x => x.fst) (kl (kf X) X.length [])).length []))) (pairsF (kl (kf X) X.length []) (nl (fun i => [AV.int IntKind.i64 (nthZ (sortZ (List.map (fun x => x.fst) (kl (kf X) X.length []))) i)]) (List.map (fun x => x.fst) (kl (kf X) X.length [])).length [])).length []) d2 (IntKind.i64.wrap (e2 + 1))).fst.length (fun i => [AV.int IntKind.i64 ((prvF (kl (kf (pairsF (kl (kf X) X.length []) (nl (fun i => [AV.int IntKind.i64 (nthZ (sortZ (List.map (fun x => x.fst) (kl (kf X) X.length []))) i)]) (List.map (fun x => x.fst) (kl (kf X) X.length [])).length []))) (pairsF (kl (kf X) X.length []) (nl (fun i => [AV.int IntKind.i64 (nthZ (sortZ 
    (List.map (fun x => x.fst) (kl (kf X) X.length []))) i)]) (List.map (fun x => x.fst) (kl (kf X) X.length [])).length [])).length []) d2 (IntKind.i64.wrap (e2 + 1))).fst.getD i (0, 0)).fst, AV.int IntKind.i64 ((prvF (kl (kf (pairsF (kl (kf X) X.length []) (nl (fun i => [AV.int IntKind.i64 (nthZ (sortZ (List.map (fun x => x.fst) (kl (kf X) X.length []))) i)]) (List.map (fun x => x.fst) (kl (kf X) X.length [])).length []))) (pairsF (kl (kf X) X.length []) (nl (fun i => [AV.int IntKind.i64 (nthZ (sortZ (List.map (fun x => x.fst) (kl (kf X) X.length []))) i)]) (List.map (fun x => x.fst) (kl (kf X) X.length [])).length [])).length []) d2 (IntKind.i64.wrap (e2 + 1))).fst.getD i (0, 0)).snd]) []] true true)) else none else none else none else none else some (AV.tup [AV.raw (Value.slice none 0 0), AV.int IntKind.i64 (Int.ofNat 171)], none) else some (AV.tup [AV.raw (Value.slice none 0 0), AV.int 
    IntKind.i64 (Int.ofNat 171)], none) else none) := by kernel_rfl
theorem evSho31t (X : List (Int × Int)) (a b c d e a2 b2 c2 d2 e2 : Int) : evFn Try.prog KCI LCI (regB Try.prog) 60 26 [.lst 2 (kf X) X.length [], .int .u8 31, .bool true, vB a b c d e, vB a2 b2 c2 d2 e2] ⟨0, []⟩ kSho =
  (bif okL (kf X) X.length [] then bif chkE (kl (kf X) X.length []) != Int.ofNat 0 then bif chkE (kl (kf X) X.length []) != Int.ofNat 0 then some (AV.tup [AV.raw (Value.slice none 0 0), AV.int IntKind.i64 (chkE (kl (kf X) X.length []))], none) else bif ptrB a b c d e then bif bif true then a2 == Int.ofNat 3 && (b2 == Int.ofNat 0 && (c2 == Int.ofNat 0 && true) && (d2 == Int.ofNat 0 && (e2 == Int.ofNat 0 && true))) else false then none else bif a == Int.ofNat 3 && (b == Int.ofNat 0 && (c == Int.ofNat 0 && true) && (d == Int.ofNat 0 && (e == Int.ofNat 0 && true))) then bif bif true then ptrB a2 b2 c2 d2 e2 else false then none else some (AV.tup [AV.raw (Value.slice none 0 0), AV.int IntKind.i64 (Int.ofNat 171)], none) else some (AV.tup [AV.raw (Value.slice none 0 0), AV.int IntKind.i64 (Int.ofNat 171)], none) else bif a == Int.ofNat 3 && (b == Int.ofNat 0 && (c == Int.ofNat 0 && true) && (d 
    == Int.ofNat 0 && (e == Int.ofNat 0 && true))) then bif bif true then ptrB a2 b2 c2 d2 e2 else false then none else some (AV.tup [AV.raw (Value.slice none 0 0), AV.int IntKind.i64 (Int.ofNat 171)], none) else some (AV.tup [AV.raw (Value.slice none 0 0), AV.int IntKind.i64 (Int.ofNat 171)], none) else bif ptrB a b c d e then bif bif true then a2 == Int.ofNat 3 && (b2 == Int.ofNat 0 && (c2 == Int.ofNat 0 && true) && (d2 == Int.ofNat 0 && (e2 == Int.ofNat 0 && true))) else false then bif ((kl (kf X) X.length []).length * 8).ble 140737488355328 && allZ (kl (kf X) X.length []) then bif true && decide (Int.ofNat (List.map (fun x => x.fst) (kl (kf X) X.length [])).length = Int.ofNat (List.map (fun x => x.fst) (kl (kf X) X.length [])).length) && true && (List.map (fun x => x.fst) (kl (kf X) X.length [])).length.blt 1000000 && okN (fun i => [AV.int IntKind.i64 (nthZ (sortZ (List.map (fun x => 
    x.fst) (kl (kf X) X.length []))) i)]) (List.map (fun x => x.fst) (kl (kf X) X.length [])).length [] && (decide ((List.map (fun x => x.fst) (kl (kf X) X.length [])).length = (List.map (fun x => x.fst) (kl (kf X) X.length [])).length) && decide ((List.map (fun x => x.fst) (kl (kf X) X.length [])).length = (List.map (fun x => x.fst) (kl (kf X) X.length [])).length)) then some (AV.tup [AV.slc 6 [] 0 0 2 (pairsF (kl (kf X) X.length []) (nl (fun i => [AV.int IntKind.i64 (nthZ (sortZ (List.map (fun x => x.fst) (kl (kf X) X.length []))) i)]) (List.map (fun x => x.fst) (kl (kf X) X.length [])).length [])).length (pairsF (kl (kf X) X.length []) (nl (fun i => [AV.int IntKind.i64 (nthZ (sortZ (List.map (fun x => x.fst) (kl (kf X) X.length []))) i)]) (List.map (fun x => x.fst) (kl (kf X) X.length [])).length [])).length, AV.int IntKind.i64 (Int.ofNat 0)], some (Row.cells [AV.arr 2 (pairsF (kl (kf X) 
    X.length []) (nl (fun i => [AV.int IntKind.i64 (nthZ (sortZ (List.map (fun x => x.fst) (kl (kf X) X.length []))) i)]) (List.map (fun x => x.fst) (kl (kf X) X.length [])).length [])).length (fun i => [AV.int IntKind.i64 ((pairsF (kl (kf X) X.length []) (nl (fun i => [AV.int IntKind.i64 (nthZ (sortZ (List.map (fun x => x.fst) (kl (kf X) X.length []))) i)]) (List.map (fun x => x.fst) (kl (kf X) X.length [])).length [])).getD i (0, 0)).fst, AV.int IntKind.i64 ((pairsF (kl (kf X) X.length []) (nl (fun i => [AV.int IntKind.i64 (nthZ (sortZ (List.map (fun x => x.fst) (kl (kf X) X.length []))) i)]) (List.map (fun x => x.fst) (kl (kf X) X.length [])).length [])).getD i (0, 0)).snd]) []] true true)) else none else none else bif a == Int.ofNat 3 && (b == Int.ofNat 0 && (c == Int.ofNat 0 && true) && (d == Int.ofNat 0 && (e == Int.ofNat 0 && true))) then bif bif true then ptrB a2 b2 c2 d2 e2 else 
    false then bif ((kl (kf X) X.length []).length * 8).ble 140737488355328 && allZ (kl (kf X) X.length []) then bif true && decide (Int.ofNat (List.map (fun x => x.fst) (kl (kf X) X.length [])).length = Int.ofNat (List.map (fun x => x.fst) (kl (kf X) X.length [])).length) && true && (List.map (fun x => x.fst) (kl (kf X) X.length [])).length.blt 1000000 && okN (fun i => [AV.int IntKind.i64 (nthZ (sortZ (List.map (fun x => x.fst) (kl (kf X) X.length []))) i)]) (List.map (fun x => x.fst) (kl (kf X) X.length [])).length [] && (decide ((List.map (fun x => x.fst) (kl (kf X) X.length [])).length = (List.map (fun x => x.fst) (kl (kf X) X.length [])).length) && decide ((List.map (fun x => x.fst) (kl (kf X) X.length [])).length = (List.map (fun x => x.fst) (kl (kf X) X.length [])).length)) then bif (add0 0 (pairsF (kl (kf X) X.length []) (nl (fun i => [AV.int IntKind.i64 (nthZ (sortZ (List.map (fun x 
    => x.fst) (kl (kf X) X.length []))) i)]) (List.map (fun x => x.fst) (kl (kf X) X.length [])).length [])).length).ble (pairsF (kl (kf X) X.length []) (nl (fun i => [AV.int IntKind.i64 (nthZ (sortZ (List.map (fun x => x.fst) (kl (kf X) X.length []))) i)]) (List.map (fun x => x.fst) (kl (kf X) X.length [])).length [])).length then bif okL (kf (pairsF (kl (kf X) X.length []) (nl (fun i => [AV.int IntKind.i64 (nthZ (sortZ (List.map (fun x => x.fst) (kl (kf X) X.length []))) i)]) (List.map (fun x => x.fst) (kl (kf X) X.length [])).length []))) (pairsF (kl (kf X) X.length []) (nl (fun i => [AV.int IntKind.i64 (nthZ (sortZ (List.map (fun x => x.fst) (kl (kf X) X.length []))) i)]) (List.map (fun x => x.fst) (kl (kf X) X.length [])).length [])).length [] then some (AV.tup [AV.slc 7 [] 0 0 2 (prvF (kl (kf (pairsF (kl (kf X) X.length []) (nl (fun i => [AV.int IntKind.i64 (nthZ (sortZ (List.map (fun 
    x => x.fst) (kl (kf X) X.length []))) i)]) (List.map (fun x => x.fst) (kl (kf X) X.length [])).length []))) (pairsF (kl (kf X) X.length []) (nl (fun i => [AV.int IntKind.i64 (nthZ (sortZ (List.map (fun x => x.fst) (kl (kf X) X.length []))) i)]) (List.map (fun x => x.fst) (kl (kf X) X.length [])).length [])).length []) d2 (IntKind.i64.wrap (e2 + 1))).fst.length (prvF (kl (kf (pairsF (kl (kf X) X.length []) (nl (fun i => [AV.int IntKind.i64 (nthZ (sortZ (List.map (fun x => x.fst) (kl (kf X) X.length []))) i)]) (List.map (fun x => x.fst) (kl (kf X) X.length [])).length []))) (pairsF (kl (kf X) X.length []) (nl (fun i => [AV.int IntKind.i64 (nthZ (sortZ (List.map (fun x => x.fst) (kl (kf X) X.length []))) i)]) (List.map (fun x => x.fst) (kl (kf X) X.length [])).length [])).length []) d2 (IntKind.i64.wrap (e2 + 1))).fst.length, AV.int IntKind.i64 (prvF (kl (kf (pairsF (kl (kf X) X.length []) 
    (nl (fun i => [AV.int IntKind.i64 (nthZ (sortZ (List.map (fun x => x.fst) (kl (kf X) X.length []))) i)]) (List.map (fun x => x.fst) (kl (kf X) X.length [])).length []))) (pairsF (kl (kf X) X.length []) (nl (fun i => [AV.int IntKind.i64 (nthZ (sortZ (List.map (fun x => x.fst) (kl (kf X) X.length []))) i)]) (List.map (fun x => x.fst) (kl (kf X) X.length [])).length [])).length []) d2 (IntKind.i64.wrap (e2 + 1))).snd], some (Row.cells [AV.arr 2 (prvF (kl (kf (pairsF (kl (kf X) X.length []) (nl (fun i => [AV.int IntKind.i64 (nthZ (sortZ (List.map (fun x => x.fst) (kl (kf X) X.length []))) i)]) (List.map (fun x => x.fst) (kl (kf X) X.length [])).length []))) (pairsF (kl (kf X) X.length []) (nl (fun i => [AV.int IntKind.i64 (nthZ (sortZ (List.map (fun x => x.fst) (kl (kf X) X.length []))) i)]) (List.map (fun x => x.fst) (kl (kf X) X.length [])).length [])).length []) d2 (IntKind.i64.wrap (e2 + 
    1))).fst.length (fun i => [AV.int IntKind.i64 ((prvF (kl (kf (pairsF (kl (kf X) X.length []) (nl (fun i => [AV.int IntKind.i64 (nthZ (sortZ (List.map (fun x => x.fst) (kl (kf X) X.length []))) i)]) (List.map (fun x => x.fst) (kl (kf X) X.length [])).length []))) (pairsF (kl (kf X) X.length []) (nl (fun i => [AV.int IntKind.i64 (nthZ (sortZ (List.map (fun x => x.fst) (kl (kf X) X.length []))) i)]) (List.map (fun x => x.fst) (kl (kf X) X.length [])).length [])).length []) d2 (IntKind.i64.wrap (e2 + 1))).fst.getD i (0, 0)).fst, AV.int IntKind.i64 ((prvF (kl (kf (pairsF (kl (kf X) X.length []) (nl (fun i => [AV.int IntKind.i64 (nthZ (sortZ (List.map (fun x => x.fst) (kl (kf X) X.length []))) i)]) (List.map (fun x => x.fst) (kl (kf X) X.length [])).length []))) (pairsF (kl (kf X) X.length []) (nl (fun i => [AV.int IntKind.i64 (nthZ (sortZ (List.map (fun x => x.fst) (kl (kf X) X.length []))) 
    i)]) (List.map (fun x => x.fst) (kl (kf X) X.length [])).length [])).length []) d2 (IntKind.i64.wrap (e2 + 1))).fst.getD i (0, 0)).snd]) []] true true)) else none else none else none else none else some (AV.tup [AV.raw (Value.slice none 0 0), AV.int IntKind.i64 (Int.ofNat 171)], none) else some (AV.tup [AV.raw (Value.slice none 0 0), AV.int IntKind.i64 (Int.ofNat 171)], none) else bif a == Int.ofNat 3 && (b == Int.ofNat 0 && (c == Int.ofNat 0 && true) && (d == Int.ofNat 0 && (e == Int.ofNat 0 && true))) then bif bif true then ptrB a2 b2 c2 d2 e2 else false then bif ((kl (kf X) X.length []).length * 8).ble 140737488355328 && allZ (kl (kf X) X.length []) then bif true && decide (Int.ofNat (List.map (fun x => x.fst) (kl (kf X) X.length [])).length = Int.ofNat (List.map (fun x => x.fst) (kl (kf X) X.length [])).length) && true && (List.map (fun x => x.fst) (kl (kf X) X.length [])).length.blt 
    1000000 && okN (fun i => [AV.int IntKind.i64 (nthZ (sortZ (List.map (fun x => x.fst) (kl (kf X) X.length []))) i)]) (List.map (fun x => x.fst) (kl (kf X) X.length [])).length [] && (decide ((List.map (fun x => x.fst) (kl (kf X) X.length [])).length = (List.map (fun x => x.fst) (kl (kf X) X.length [])).length) && decide ((List.map (fun x => x.fst) (kl (kf X) X.length [])).length = (List.map (fun x => x.fst) (kl (kf X) X.length [])).length)) then bif (add0 0 (pairsF (kl (kf X) X.length []) (nl (fun i => [AV.int IntKind.i64 (nthZ (sortZ (List.map (fun x => x.fst) (kl (kf X) X.length []))) i)]) (List.map (fun x => x.fst) (kl (kf X) X.length [])).length [])).length).ble (pairsF (kl (kf X) X.length []) (nl (fun i => [AV.int IntKind.i64 (nthZ (sortZ (List.map (fun x => x.fst) (kl (kf X) X.length []))) i)]) (List.map (fun x => x.fst) (kl (kf X) X.length [])).length [])).length then bif okL (kf 
    (pairsF (kl (kf X) X.length []) (nl (fun i => [AV.int IntKind.i64 (nthZ (sortZ (List.map (fun x => x.fst) (kl (kf X) X.length []))) i)]) (List.map (fun x => x.fst) (kl (kf X) X.length [])).length []))) (pairsF (kl (kf X) X.length []) (nl (fun i => [AV.int IntKind.i64 (nthZ (sortZ (List.map (fun x => x.fst) (kl (kf X) X.length []))) i)]) (List.map (fun x => x.fst) (kl (kf X) X.length [])).length [])).length [] then some (AV.tup [AV.slc 7 [] 0 0 2 (prvF (kl (kf (pairsF (kl (kf X) X.length []) (nl (fun i => [AV.int IntKind.i64 (nthZ (sortZ (List.map (fun x => x.fst) (kl (kf X) X.length []))) i)]) (List.map (fun x => x.fst) (kl (kf X) X.length [])).length []))) (pairsF (kl (kf X) X.length []) (nl (fun i => [AV.int IntKind.i64 (nthZ (sortZ (List.map (fun x => x.fst) (kl (kf X) X.length []))) i)]) (List.map (fun x => x.fst) (kl (kf X) X.length [])).length [])).length []) d2 (IntKind.i64.wrap 
    (e2 + 1))).fst.length (prvF (kl (kf (pairsF (kl (kf X) X.length []) (nl (fun i => [AV.int IntKind.i64 (nthZ (sortZ (List.map (fun x => x.fst) (kl (kf X) X.length []))) i)]) (List.map (fun x => x.fst) (kl (kf X) X.length [])).length []))) (pairsF (kl (kf X) X.length []) (nl (fun i => [AV.int IntKind.i64 (nthZ (sortZ (List.map (fun x => x.fst) (kl (kf X) X.length []))) i)]) (List.map (fun x => x.fst) (kl (kf X) X.length [])).length [])).length []) d2 (IntKind.i64.wrap (e2 + 1))).fst.length, AV.int IntKind.i64 (prvF (kl (kf (pairsF (kl (kf X) X.length []) (nl (fun i => [AV.int IntKind.i64 (nthZ (sortZ (List.map (fun x => x.fst) (kl (kf X) X.length []))) i)]) (List.map (fun x => x.fst) (kl (kf X) X.length [])).length []))) (pairsF (kl (kf X) X.length []) (nl (fun i => [AV.int IntKind.i64 (nthZ (sortZ (List.map (fun x => x.fst) (kl (kf X) X.length []))) i)]) (List.map (fun x => x.fst) (kl (kf 
    X) X.length [])).length [])).length []) d2 (IntKind.i64.wrap (e2 + 1))).snd], some (Row.cells [AV.arr 2 (prvF (kl (kf (pairsF (kl (kf X) X.length []) (nl (fun i => [AV.int IntKind.i64 (nthZ (sortZ (List.map (fun x => x.fst) (kl (kf X) X.length []))) i)]) (List.map (fun x => x.fst) (kl (kf X) X.length [])).length []))) (pairsF (kl (kf X) X.length []) (nl (fun i => [AV.int IntKind.i64 (nthZ (sortZ (List.map (fun x => x.fst) (kl (kf X) X.length []))) i)]) (List.map (fun x => x.fst) (kl (kf X) X.length [])).length [])).length []) d2 (IntKind.i64.wrap (e2 + 1))).fst.length (fun i => [AV.int IntKind.i64 ((prvF (kl (kf (pairsF (kl (kf X) X.length []) (nl (fun i => [AV.int IntKind.i64 (nthZ (sortZ (List.map (fun x => x.fst) (kl (kf X) X.length []))) i)]) (List.map (fun x => x.fst) (kl (kf X) X.length [])).length []))) (pairsF (kl (kf X) X.length []) (nl (fun i => [AV.int IntKind.i64 (nthZ (sortZ 
    (List.map (fun x => x.fst) (kl (kf X) X.length []))) i)]) (List.map (fun x => x.fst) (kl (kf X) X.length [])).length [])).length []) d2 (IntKind.i64.wrap (e2 + 1))).fst.getD i (0, 0)).fst, AV.int IntKind.i64 ((prvF (kl (kf (pairsF (kl (kf X) X.length []) (nl (fun i => [AV.int IntKind.i64 (nthZ (sortZ (List.map (fun x => x.fst) (kl (kf X) X.length []))) i)]) (List.map (fun x => x.fst) (kl (kf X) X.length [])).length []))) (pairsF (kl (kf X) X.length []) (nl (fun i => [AV.int IntKind.i64 (nthZ (sortZ (List.map (fun x => x.fst) (kl (kf X) X.length []))) i)]) (List.map (fun x => x.fst) (kl (kf X) X.length [])).length [])).length []) d2 (IntKind.i64.wrap (e2 + 1))).fst.getD i (0, 0)).snd]) []] true true)) else none else none else none else none else some (AV.tup [AV.raw (Value.slice none 0 0), AV.int IntKind.i64 (Int.ofNat 171)], none) else some (AV.tup [AV.raw (Value.slice none 0 0), AV.int 
    IntKind.i64 (Int.ofNat 171)], none) else none) := by kernel_rfl
theorem evSho31f (X : List (Int × Int)) (a b c d e a2 b2 c2 d2 e2 : Int) : evFn Try.prog KCI LCI (regB Try.prog) 60 26 [.lst 2 (kf X) X.length [], .int .u8 31, .bool false, vB a b c d e, vB a2 b2 c2 d2 e2] ⟨0, []⟩ kSho =
  (bif okL (kf X) X.length [] then bif chkE (kl (kf X) X.length []) != Int.ofNat 0 then bif chkE (kl (kf X) X.length []) != Int.ofNat 0 then some (AV.tup [AV.raw (Value.slice none 0 0), AV.int IntKind.i64 (chkE (kl (kf X) X.length []))], none) else bif ptrB a b c d e then bif bif true then a2 == Int.ofNat 3 && (b2 == Int.ofNat 0 && (c2 == Int.ofNat 0 && true) && (d2 == Int.ofNat 0 && (e2 == Int.ofNat 0 && true))) else false then none else bif a == Int.ofNat 3 && (b == Int.ofNat 0 && (c == Int.ofNat 0 && true) && (d == Int.ofNat 0 && (e == Int.ofNat 0 && true))) then bif bif true then ptrB a2 b2 c2 d2 e2 else false then none else some (AV.tup [AV.raw (Value.slice none 0 0), AV.int IntKind.i64 (Int.ofNat 171)], none) else some (AV.tup [AV.raw (Value.slice none 0 0), AV.int IntKind.i64 (Int.ofNat 171)], none) else bif a == Int.ofNat 3 && (b == Int.ofNat 0 && (c == Int.ofNat 0 && true) && (d 
    == Int.ofNat 0 && (e == Int.ofNat 0 && true))) then bif bif true then ptrB a2 b2 c2 d2 e2 else false then none else some (AV.tup [AV.raw (Value.slice none 0 0), AV.int IntKind.i64 (Int.ofNat 171)], none) else some (AV.tup [AV.raw (Value.slice none 0 0), AV.int IntKind.i64 (Int.ofNat 171)], none) else bif ptrB a b c d e then bif bif true then a2 == Int.ofNat 3 && (b2 == Int.ofNat 0 && (c2 == Int.ofNat 0 && true) && (d2 == Int.ofNat 0 && (e2 == Int.ofNat 0 && true))) else false then bif ((kl (kf X) X.length []).length * 8).ble 140737488355328 && allZ (kl (kf X) X.length []) then bif true && decide (Int.ofNat (List.map (fun x => x.fst) (kl (kf X) X.length [])).length = Int.ofNat (List.map (fun x => x.fst) (kl (kf X) X.length [])).length) && true && (List.map (fun x => x.fst) (kl (kf X) X.length [])).length.blt 1000000 && okN (fun i => [AV.int IntKind.i64 (nthZ (sortZ (List.map (fun x => 
    x.fst) (kl (kf X) X.length []))) i)]) (List.map (fun x => x.fst) (kl (kf X) X.length [])).length [] && (decide ((List.map (fun x => x.fst) (kl (kf X) X.length [])).length = (List.map (fun x => x.fst) (kl (kf X) X.length [])).length) && decide ((List.map (fun x => x.fst) (kl (kf X) X.length [])).length = (List.map (fun x => x.fst) (kl (kf X) X.length [])).length)) then bif (add0 0 (pairsF (kl (kf X) X.length []) (nl (fun i => [AV.int IntKind.i64 (nthZ (sortZ (List.map (fun x => x.fst) (kl (kf X) X.length []))) i)]) (List.map (fun x => x.fst) (kl (kf X) X.length [])).length [])).length).ble (pairsF (kl (kf X) X.length []) (nl (fun i => [AV.int IntKind.i64 (nthZ (sortZ (List.map (fun x => x.fst) (kl (kf X) X.length []))) i)]) (List.map (fun x => x.fst) (kl (kf X) X.length [])).length [])).length then bif okL (kf (pairsF (kl (kf X) X.length []) (nl (fun i => [AV.int IntKind.i64 (nthZ (sortZ 
    (List.map (fun x => x.fst) (kl (kf X) X.length []))) i)]) (List.map (fun x => x.fst) (kl (kf X) X.length [])).length []))) (pairsF (kl (kf X) X.length []) (nl (fun i => [AV.int IntKind.i64 (nthZ (sortZ (List.map (fun x => x.fst) (kl (kf X) X.length []))) i)]) (List.map (fun x => x.fst) (kl (kf X) X.length [])).length [])).length [] then some (AV.tup [AV.slc 7 [] 0 0 2 (prvF (kl (kf (pairsF (kl (kf X) X.length []) (nl (fun i => [AV.int IntKind.i64 (nthZ (sortZ (List.map (fun x => x.fst) (kl (kf X) X.length []))) i)]) (List.map (fun x => x.fst) (kl (kf X) X.length [])).length []))) (pairsF (kl (kf X) X.length []) (nl (fun i => [AV.int IntKind.i64 (nthZ (sortZ (List.map (fun x => x.fst) (kl (kf X) X.length []))) i)]) (List.map (fun x => x.fst) (kl (kf X) X.length [])).length [])).length []) d e).fst.length (prvF (kl (kf (pairsF (kl (kf X) X.length []) (nl (fun i => [AV.int IntKind.i64 (nthZ 
    (sortZ (List.map (fun x => x.fst) (kl (kf X) X.length []))) i)]) (List.map (fun x => x.fst) (kl (kf X) X.length [])).length []))) (pairsF (kl (kf X) X.length []) (nl (fun i => [AV.int IntKind.i64 (nthZ (sortZ (List.map (fun x => x.fst) (kl (kf X) X.length []))) i)]) (List.map (fun x => x.fst) (kl (kf X) X.length [])).length [])).length []) d e).fst.length, AV.int IntKind.i64 (prvF (kl (kf (pairsF (kl (kf X) X.length []) (nl (fun i => [AV.int IntKind.i64 (nthZ (sortZ (List.map (fun x => x.fst) (kl (kf X) X.length []))) i)]) (List.map (fun x => x.fst) (kl (kf X) X.length [])).length []))) (pairsF (kl (kf X) X.length []) (nl (fun i => [AV.int IntKind.i64 (nthZ (sortZ (List.map (fun x => x.fst) (kl (kf X) X.length []))) i)]) (List.map (fun x => x.fst) (kl (kf X) X.length [])).length [])).length []) d e).snd], some (Row.cells [AV.arr 2 (prvF (kl (kf (pairsF (kl (kf X) X.length []) (nl (fun i 
    => [AV.int IntKind.i64 (nthZ (sortZ (List.map (fun x => x.fst) (kl (kf X) X.length []))) i)]) (List.map (fun x => x.fst) (kl (kf X) X.length [])).length []))) (pairsF (kl (kf X) X.length []) (nl (fun i => [AV.int IntKind.i64 (nthZ (sortZ (List.map (fun x => x.fst) (kl (kf X) X.length []))) i)]) (List.map (fun x => x.fst) (kl (kf X) X.length [])).length [])).length []) d e).fst.length (fun i => [AV.int IntKind.i64 ((prvF (kl (kf (pairsF (kl (kf X) X.length []) (nl (fun i => [AV.int IntKind.i64 (nthZ (sortZ (List.map (fun x => x.fst) (kl (kf X) X.length []))) i)]) (List.map (fun x => x.fst) (kl (kf X) X.length [])).length []))) (pairsF (kl (kf X) X.length []) (nl (fun i => [AV.int IntKind.i64 (nthZ (sortZ (List.map (fun x => x.fst) (kl (kf X) X.length []))) i)]) (List.map (fun x => x.fst) (kl (kf X) X.length [])).length [])).length []) d e).fst.getD i (0, 0)).fst, AV.int IntKind.i64 ((prvF 
    (kl (kf (pairsF (kl (kf X) X.length []) (nl (fun i => [AV.int IntKind.i64 (nthZ (sortZ (List.map (fun x => x.fst) (kl (kf X) X.length []))) i)]) (List.map (fun x => x.fst) (kl (kf X) X.length [])).length []))) (pairsF (kl (kf X) X.length []) (nl (fun i => [AV.int IntKind.i64 (nthZ (sortZ (List.map (fun x => x.fst) (kl (kf X) X.length []))) i)]) (List.map (fun x => x.fst) (kl (kf X) X.length [])).length [])).length []) d e).fst.getD i (0, 0)).snd]) []] true true)) else none else none else none else none else bif a == Int.ofNat 3 && (b == Int.ofNat 0 && (c == Int.ofNat 0 && true) && (d == Int.ofNat 0 && (e == Int.ofNat 0 && true))) then bif bif true then ptrB a2 b2 c2 d2 e2 else false then bif ((kl (kf X) X.length []).length * 8).ble 140737488355328 && allZ (kl (kf X) X.length []) then bif true && decide (Int.ofNat (List.map (fun x => x.fst) (kl (kf X) X.length [])).length = Int.ofNat 
    (List.map (fun x => x.fst) (kl (kf X) X.length [])).length) && true && (List.map (fun x => x.fst) (kl (kf X) X.length [])).length.blt 1000000 && okN (fun i => [AV.int IntKind.i64 (nthZ (sortZ (List.map (fun x => x.fst) (kl (kf X) X.length []))) i)]) (List.map (fun x => x.fst) (kl (kf X) X.length [])).length [] && (decide ((List.map (fun x => x.fst) (kl (kf X) X.length [])).length = (List.map (fun x => x.fst) (kl (kf X) X.length [])).length) && decide ((List.map (fun x => x.fst) (kl (kf X) X.length [])).length = (List.map (fun x => x.fst) (kl (kf X) X.length [])).length)) then some (AV.tup [AV.slc 6 [] 0 0 2 (pairsF (kl (kf X) X.length []) (nl (fun i => [AV.int IntKind.i64 (nthZ (sortZ (List.map (fun x => x.fst) (kl (kf X) X.length []))) i)]) (List.map (fun x => x.fst) (kl (kf X) X.length [])).length [])).length (pairsF (kl (kf X) X.length []) (nl (fun i => [AV.int IntKind.i64 (nthZ 
    (sortZ (List.map (fun x => x.fst) (kl (kf X) X.length []))) i)]) (List.map (fun x => x.fst) (kl (kf X) X.length [])).length [])).length, AV.int IntKind.i64 (Int.ofNat 0)], some (Row.cells [AV.arr 2 (pairsF (kl (kf X) X.length []) (nl (fun i => [AV.int IntKind.i64 (nthZ (sortZ (List.map (fun x => x.fst) (kl (kf X) X.length []))) i)]) (List.map (fun x => x.fst) (kl (kf X) X.length [])).length [])).length (fun i => [AV.int IntKind.i64 ((pairsF (kl (kf X) X.length []) (nl (fun i => [AV.int IntKind.i64 (nthZ (sortZ (List.map (fun x => x.fst) (kl (kf X) X.length []))) i)]) (List.map (fun x => x.fst) (kl (kf X) X.length [])).length [])).getD i (0, 0)).fst, AV.int IntKind.i64 ((pairsF (kl (kf X) X.length []) (nl (fun i => [AV.int IntKind.i64 (nthZ (sortZ (List.map (fun x => x.fst) (kl (kf X) X.length []))) i)]) (List.map (fun x => x.fst) (kl (kf X) X.length [])).length [])).getD i (0, 0)).snd]) 
    []] true true)) else none else none else some (AV.tup [AV.raw (Value.slice none 0 0), AV.int IntKind.i64 (Int.ofNat 171)], none) else some (AV.tup [AV.raw (Value.slice none 0 0), AV.int IntKind.i64 (Int.ofNat 171)], none) else bif a == Int.ofNat 3 && (b == Int.ofNat 0 && (c == Int.ofNat 0 && true) && (d == Int.ofNat 0 && (e == Int.ofNat 0 && true))) then bif bif true then ptrB a2 b2 c2 d2 e2 else false then bif ((kl (kf X) X.length []).length * 8).ble 140737488355328 && allZ (kl (kf X) X.length []) then bif true && decide (Int.ofNat (List.map (fun x => x.fst) (kl (kf X) X.length [])).length = Int.ofNat (List.map (fun x => x.fst) (kl (kf X) X.length [])).length) && true && (List.map (fun x => x.fst) (kl (kf X) X.length [])).length.blt 1000000 && okN (fun i => [AV.int IntKind.i64 (nthZ (sortZ (List.map (fun x => x.fst) (kl (kf X) X.length []))) i)]) (List.map (fun x => x.fst) (kl (kf X) 
    X.length [])).length [] && (decide ((List.map (fun x => x.fst) (kl (kf X) X.length [])).length = (List.map (fun x => x.fst) (kl (kf X) X.length [])).length) && decide ((List.map (fun x => x.fst) (kl (kf X) X.length [])).length = (List.map (fun x => x.fst) (kl (kf X) X.length [])).length)) then some (AV.tup [AV.slc 6 [] 0 0 2 (pairsF (kl (kf X) X.length []) (nl (fun i => [AV.int IntKind.i64 (nthZ (sortZ (List.map (fun x => x.fst) (kl (kf X) X.length []))) i)]) (List.map (fun x => x.fst) (kl (kf X) X.length [])).length [])).length (pairsF (kl (kf X) X.length []) (nl (fun i => [AV.int IntKind.i64 (nthZ (sortZ (List.map (fun x => x.fst) (kl (kf X) X.length []))) i)]) (List.map (fun x => x.fst) (kl (kf X) X.length [])).length [])).length, AV.int IntKind.i64 (Int.ofNat 0)], some (Row.cells [AV.arr 2 (pairsF (kl (kf X) X.length []) (nl (fun i => [AV.int IntKind.i64 (nthZ (sortZ (List.map (fun x 
    => x.fst) (kl (kf X) X.length []))) i)]) (List.map (fun x => x.fst) (kl (kf X) X.length [])).length [])).length (fun i => [AV.int IntKind.i64 ((pairsF (kl (kf X) X.length []) (nl (fun i => [AV.int IntKind.i64 (nthZ (sortZ (List.map (fun x => x.fst) (kl (kf X) X.length []))) i)]) (List.map (fun x => x.fst) (kl (kf X) X.length [])).length [])).getD i (0, 0)).fst, AV.int IntKind.i64 ((pairsF (kl (kf X) X.length []) (nl (fun i => [AV.int IntKind.i64 (nthZ (sortZ (List.map (fun x => x.fst) (kl (kf X) X.length []))) i)]) (List.map (fun x => x.fst) (kl (kf X) X.length [])).length [])).getD i (0, 0)).snd]) []] true true)) else none else none else some (AV.tup [AV.raw (Value.slice none 0 0), AV.int IntKind.i64 (Int.ofNat 171)], none) else some (AV.tup [AV.raw (Value.slice none 0 0), AV.int IntKind.i64 (Int.ofNat 171)], none) else none) := by kernel_rfl
theorem evSho32t (X : List (Int × Int)) (a b c d e a2 b2 c2 d2 e2 : Int) : evFn Try.prog KCI LCI (regB Try.prog) 60 26 [.lst 2 (kf X) X.length [], .int .u8 32, .bool true, vB a b c d e, vB a2 b2 c2 d2 e2] ⟨0, []⟩ kSho =
  (bif okL (kf X) X.length [] then bif chkE (kl (kf X) X.length []) != Int.ofNat 0 then bif chkE (kl (kf X) X.length []) != Int.ofNat 0 then some (AV.tup [AV.raw (Value.slice none 0 0), AV.int IntKind.i64 (chkE (kl (kf X) X.length []))], none) else bif ptrB a b c d e then bif bif true then a2 == Int.ofNat 3 && (b2 == Int.ofNat 0 && (c2 == Int.ofNat 0 && true) && (d2 == Int.ofNat 0 && (e2 == Int.ofNat 0 && true))) else false then none else bif a == Int.ofNat 3 && (b == Int.ofNat 0 && (c == Int.ofNat 0 && true) && (d == Int.ofNat 0 && (e == Int.ofNat 0 && true))) then bif bif true then ptrB a2 b2 c2 d2 e2 else false then none else some (AV.tup [AV.raw (Value.slice none 0 0), AV.int IntKind.i64 (Int.ofNat 171)], none) else some (AV.tup [AV.raw (Value.slice none 0 0), AV.int IntKind.i64 (Int.ofNat 171)], none) else bif a == Int.ofNat 3 && (b == Int.ofNat 0 && (c == Int.ofNat 0 && true) && (d 
    == Int.ofNat 0 && (e == Int.ofNat 0 && true))) then bif bif true then ptrB a2 b2 c2 d2 e2 else false then none else some (AV.tup [AV.raw (Value.slice none 0 0), AV.int IntKind.i64 (Int.ofNat 171)], none) else some (AV.tup [AV.raw (Value.slice none 0 0), AV.int IntKind.i64 (Int.ofNat 171)], none) else bif ptrB a b c d e then bif bif true then a2 == Int.ofNat 3 && (b2 == Int.ofNat 0 && (c2 == Int.ofNat 0 && true) && (d2 == Int.ofNat 0 && (e2 == Int.ofNat 0 && true))) else false then bif ((kl (kf X) X.length []).length * 8).ble 140737488355328 && allZ (kl (kf X) X.length []) then bif true && decide (Int.ofNat (List.map (fun x => x.fst) (kl (kf X) X.length [])).length = Int.ofNat (List.map (fun x => x.fst) (kl (kf X) X.length [])).length) && true && (List.map (fun x => x.fst) (kl (kf X) X.length [])).length.blt 1000000 && okN (fun i => [AV.int IntKind.i64 (nthZ (sortZ (List.map (fun x => 
    x.fst) (kl (kf X) X.length []))) i)]) (List.map (fun x => x.fst) (kl (kf X) X.length [])).length [] && (decide ((List.map (fun x => x.fst) (kl (kf X) X.length [])).length = (List.map (fun x => x.fst) (kl (kf X) X.length [])).length) && decide ((List.map (fun x => x.fst) (kl (kf X) X.length [])).length = (List.map (fun x => x.fst) (kl (kf X) X.length [])).length)) then some (AV.tup [AV.slc 6 [] 0 0 2 (pairsF (kl (kf X) X.length []) (nl (fun i => [AV.int IntKind.i64 (nthZ (sortZ (List.map (fun x => x.fst) (kl (kf X) X.length []))) i)]) (List.map (fun x => x.fst) (kl (kf X) X.length [])).length [])).length (pairsF (kl (kf X) X.length []) (nl (fun i => [AV.int IntKind.i64 (nthZ (sortZ (List.map (fun x => x.fst) (kl (kf X) X.length []))) i)]) (List.map (fun x => x.fst) (kl (kf X) X.length [])).length [])).length, AV.int IntKind.i64 (Int.ofNat 0)], some (Row.cells [AV.arr 2 (pairsF (kl (kf X) 
    X.length []) (nl (fun i => [AV.int IntKind.i64 (nthZ (sortZ (List.map (fun x => x.fst) (kl (kf X) X.length []))) i)]) (List.map (fun x => x.fst) (kl (kf X) X.length [])).length [])).length (fun i => [AV.int IntKind.i64 ((pairsF (kl (kf X) X.length []) (nl (fun i => [AV.int IntKind.i64 (nthZ (sortZ (List.map (fun x => x.fst) (kl (kf X) X.length []))) i)]) (List.map (fun x => x.fst) (kl (kf X) X.length [])).length [])).getD i (0, 0)).fst, AV.int IntKind.i64 ((pairsF (kl (kf X) X.length []) (nl (fun i => [AV.int IntKind.i64 (nthZ (sortZ (List.map (fun x => x.fst) (kl (kf X) X.length []))) i)]) (List.map (fun x => x.fst) (kl (kf X) X.length [])).length [])).getD i (0, 0)).snd]) []] true true)) else none else none else bif a == Int.ofNat 3 && (b == Int.ofNat 0 && (c == Int.ofNat 0 && true) && (d == Int.ofNat 0 && (e == Int.ofNat 0 && true))) then bif bif true then ptrB a2 b2 c2 d2 e2 else 
    false then bif ((kl (kf X) X.length []).length * 8).ble 140737488355328 && allZ (kl (kf X) X.length []) then bif true && decide (Int.ofNat (List.map (fun x => x.fst) (kl (kf X) X.length [])).length = Int.ofNat (List.map (fun x => x.fst) (kl (kf X) X.length [])).length) && true && (List.map (fun x => x.fst) (kl (kf X) X.length [])).length.blt 1000000 && okN (fun i => [AV.int IntKind.i64 (nthZ (sortZ (List.map (fun x => x.fst) (kl (kf X) X.length []))) i)]) (List.map (fun x => x.fst) (kl (kf X) X.length [])).length [] && (decide ((List.map (fun x => x.fst) (kl (kf X) X.length [])).length = (List.map (fun x => x.fst) (kl (kf X) X.length [])).length) && decide ((List.map (fun x => x.fst) (kl (kf X) X.length [])).length = (List.map (fun x => x.fst) (kl (kf X) X.length [])).length)) then bif (add0 0 (pairsF (kl (kf X) X.length []) (nl (fun i => [AV.int IntKind.i64 (nthZ (sortZ (List.map (fun x 
    => x.fst) (kl (kf X) X.length []))) i)]) (List.map (fun x => x.fst) (kl (kf X) X.length [])).length [])).length).ble (pairsF (kl (kf X) X.length []) (nl (fun i => [AV.int IntKind.i64 (nthZ (sortZ (List.map (fun x => x.fst) (kl (kf X) X.length []))) i)]) (List.map (fun x => x.fst) (kl (kf X) X.length [])).length [])).length then bif okL (kf (pairsF (kl (kf X) X.length []) (nl (fun i => [AV.int IntKind.i64 (nthZ (sortZ (List.map (fun x => x.fst) (kl (kf X) X.length []))) i)]) (List.map (fun x => x.fst) (kl (kf X) X.length [])).length []))) (pairsF (kl (kf X) X.length []) (nl (fun i => [AV.int IntKind.i64 (nthZ (sortZ (List.map (fun x => x.fst) (kl (kf X) X.length []))) i)]) (List.map (fun x => x.fst) (kl (kf X) X.length [])).length [])).length [] then some (AV.tup [AV.slc 7 [] 0 0 2 (prvF (kl (kf (pairsF (kl (kf X) X.length []) (nl (fun i => [AV.int IntKind.i64 (nthZ (sortZ (List.map (fun 
    x => x.fst) (kl (kf X) X.length []))) i)]) (List.map (fun x => x.fst) (kl (kf X) X.length [])).length []))) (pairsF (kl (kf X) X.length []) (nl (fun i => [AV.int IntKind.i64 (nthZ (sortZ (List.map (fun x => x.fst) (kl (kf X) X.length []))) i)]) (List.map (fun x => x.fst) (kl (kf X) X.length [])).length [])).length []) d2 e2).fst.length (prvF (kl (kf (pairsF (kl (kf X) X.length []) (nl (fun i => [AV.int IntKind.i64 (nthZ (sortZ (List.map (fun x => x.fst) (kl (kf X) X.length []))) i)]) (List.map (fun x => x.fst) (kl (kf X) X.length [])).length []))) (pairsF (kl (kf X) X.length []) (nl (fun i => [AV.int IntKind.i64 (nthZ (sortZ (List.map (fun x => x.fst) (kl (kf X) X.length []))) i)]) (List.map (fun x => x.fst) (kl (kf X) X.length [])).length [])).length []) d2 e2).fst.length, AV.int IntKind.i64 (prvF (kl (kf (pairsF (kl (kf X) X.length []) (nl (fun i => [AV.int IntKind.i64 (nthZ (sortZ 
    (List.map (fun x => x.fst) (kl (kf X) X.length []))) i)]) (List.map (fun x => x.fst) (kl (kf X) X.length [])).length []))) (pairsF (kl (kf X) X.length []) (nl (fun i => [AV.int IntKind.i64 (nthZ (sortZ (List.map (fun x => x.fst) (kl (kf X) X.length []))) i)]) (List.map (fun x => x.fst) (kl (kf X) X.length [])).length [])).length []) d2 e2).snd], some (Row.cells [AV.arr 2 (prvF (kl (kf (pairsF (kl (kf X) X.length []) (nl (fun i => [AV.int IntKind.i64 (nthZ (sortZ (List.map (fun x => x.fst) (kl (kf X) X.length []))) i)]) (List.map (fun x => x.fst) (kl (kf X) X.length [])).length []))) (pairsF (kl (kf X) X.length []) (nl (fun i => [AV.int IntKind.i64 (nthZ (sortZ (List.map (fun x => x.fst) (kl (kf X) X.length []))) i)]) (List.map (fun x => x.fst) (kl (kf X) X.length [])).length [])).length []) d2 e2).fst.length (fun i => [AV.int IntKind.i64 ((prvF (kl (kf (pairsF (kl (kf X) X.length []) (nl 
    (fun i => [AV.int IntKind.i64 (nthZ (sortZ (List.map (fun x => x.fst) (kl (kf X) X.length []))) i)]) (List.map (fun x => x.fst) (kl (kf X) X.length [])).length []))) (pairsF (kl (kf X) X.length []) (nl (fun i => [AV.int IntKind.i64 (nthZ (sortZ (List.map (fun x => x.fst) (kl (kf X) X.length []))) i)]) (List.map (fun x => x.fst) (kl (kf X) X.length [])).length [])).length []) d2 e2).fst.getD i (0, 0)).fst, AV.int IntKind.i64 ((prvF (kl (kf (pairsF (kl (kf X) X.length []) (nl (fun i => [AV.int IntKind.i64 (nthZ (sortZ (List.map (fun x => x.fst) (kl (kf X) X.length []))) i)]) (List.map (fun x => x.fst) (kl (kf X) X.length [])).length []))) (pairsF (kl (kf X) X.length []) (nl (fun i => [AV.int IntKind.i64 (nthZ (sortZ (List.map (fun x => x.fst) (kl (kf X) X.length []))) i)]) (List.map (fun x => x.fst) (kl (kf X) X.length [])).length [])).length []) d2 e2).fst.getD i (0, 0)).snd]) []] true 
    true)) else none else none else none else none else some (AV.tup [AV.raw (Value.slice none 0 0), AV.int IntKind.i64 (Int.ofNat 171)], none) else some (AV.tup [AV.raw (Value.slice none 0 0), AV.int IntKind.i64 (Int.ofNat 171)], none) else bif a == Int.ofNat 3 && (b == Int.ofNat 0 && (c == Int.ofNat 0 && true) && (d == Int.ofNat 0 && (e == Int.ofNat 0 && true))) then bif bif true then ptrB a2 b2 c2 d2 e2 else false then bif ((kl (kf X) X.length []).length * 8).ble 140737488355328 && allZ (kl (kf X) X.length []) then bif true && decide (Int.ofNat (List.map (fun x => x.fst) (kl (kf X) X.length [])).length = Int.ofNat (List.map (fun x => x.fst) (kl (kf X) X.length [])).length) && true && (List.map (fun x => x.fst) (kl (kf X) X.length [])).length.blt 1000000 && okN (fun i => [AV.int IntKind.i64 (nthZ (sortZ (List.map (fun x => x.fst) (kl (kf X) X.length []))) i)]) (List.map (fun x => x.fst) 
    (kl (kf X) X.length [])).length [] && (decide ((List.map (fun x => x.fst) (kl (kf X) X.length [])).length = (List.map (fun x => x.fst) (kl (kf X) X.length [])).length) && decide ((List.map (fun x => x.fst) (kl (kf X) X.length [])).length = (List.map (fun x => x.fst) (kl (kf X) X.length [])).length)) then bif (add0 0 (pairsF (kl (kf X) X.length []) (nl (fun i => [AV.int IntKind.i64 (nthZ (sortZ (List.map (fun x => x.fst) (kl (kf X) X.length []))) i)]) (List.map (fun x => x.fst) (kl (kf X) X.length [])).length [])).length).ble (pairsF (kl (kf X) X.length []) (nl (fun i => [AV.int IntKind.i64 (nthZ (sortZ (List.map (fun x => x.fst) (kl (kf X) X.length []))) i)]) (List.map (fun x => x.fst) (kl (kf X) X.length [])).length [])).length then bif okL (kf (pairsF (kl (kf X) X.length []) (nl (fun i => [AV.int IntKind.i64 (nthZ (sortZ (List.map (fun x => x.fst) (kl (kf X) X.length []))) i)]) 
    (List.map (fun x => x.fst) (kl (kf X) X.length [])).length []))) (pairsF (kl (kf X) X.length []) (nl (fun i => [AV.int IntKind.i64 (nthZ (sortZ (List.map (fun x => x.fst) (kl (kf X) X.length []))) i)]) (List.map (fun x => x.fst) (kl (kf X) X.length [])).length [])).length [] then some (AV.tup [AV.slc 7 [] 0 0 2 (prvF (kl (kf (pairsF (kl (kf X) X.length []) (nl (fun i => [AV.int IntKind.i64 (nthZ (sortZ (List.map (fun x => x.fst) (kl (kf X) X.length []))) i)]) (List.map (fun x => x.fst) (kl (kf X) X.length [])).length []))) (pairsF (kl (kf X) X.length []) (nl (fun i => [AV.int IntKind.i64 (nthZ (sortZ (List.map (fun x => x.fst) (kl (kf X) X.length []))) i)]) (List.map (fun x => x.fst) (kl (kf X) X.length [])).length [])).length []) d2 e2).fst.length (prvF (kl (kf (pairsF (kl (kf X) X.length []) (nl (fun i => [AV.int IntKind.i64 (nthZ (sortZ (List.map (fun x => x.fst) (kl (kf X) X.length 
    []))) i)]) (List.map (fun x => x.fst) (kl (kf X) X.length [])).length []))) (pairsF (kl (kf X) X.length []) (nl (fun i => [AV.int IntKind.i64 (nthZ (sortZ (List.map (fun x => x.fst) (kl (kf X) X.length []))) i)]) (List.map (fun x => x.fst) (kl (kf X) X.length [])).length [])).length []) d2 e2).fst.length, AV.int IntKind.i64 (prvF (kl (kf (pairsF (kl (kf X) X.length []) (nl (fun i => [AV.int IntKind.i64 (nthZ (sortZ (List.map (fun x => x.fst) (kl (kf X) X.length []))) i)]) (List.map (fun x => x.fst) (kl (kf X) X.length [])).length []))) (pairsF (kl (kf X) X.length []) (nl (fun i => [AV.int IntKind.i64 (nthZ (sortZ (List.map (fun x => x.fst) (kl (kf X) X.length []))) i)]) (List.map (fun x => x.fst) (kl (kf X) X.length [])).length [])).length []) d2 e2).snd], some (Row.cells [AV.arr 2 (prvF (kl (kf (pairsF (kl (kf X) X.length []) (nl (fun i => [AV.int IntKind.i64 (nthZ (sortZ (List.map (fun 
    x => x.fst) (kl (kf X) X.length []))) i)]) (List.map (fun x => x.fst) (kl (kf X) X.length [])).length []))) (pairsF (kl (kf X) X.length []) (nl (fun i => [AV.int IntKind.i64 (nthZ (sortZ (List.map (fun x => x.fst) (kl (kf X) X.length []))) i)]) (List.map (fun x => x.fst) (kl (kf X) X.length [])).length [])).length []) d2 e2).fst.length (fun i => [AV.int IntKind.i64 ((prvF (kl (kf (pairsF (kl (kf X) X.length []) (nl (fun i => [AV.int IntKind.i64 (nthZ (sortZ (List.map (fun x => x.fst) (kl (kf X) X.length []))) i)]) (List.map (fun x => x.fst) (kl (kf X) X.length [])).length []))) (pairsF (kl (kf X) X.length []) (nl (fun i => [AV.int IntKind.i64 (nthZ (sortZ (List.map (fun x => x.fst) (kl (kf X) X.length []))) i)]) (List.map (fun x => x.fst) (kl (kf X) X.length [])).length [])).length []) d2 e2).fst.getD i (0, 0)).fst, AV.int IntKind.i64 ((prvF (kl (kf (pairsF (kl (kf X) X.length []) (nl 
    (fun i => [AV.int IntKind.i64 (nthZ (sortZ (List.map (fun x => x.fst) (kl (kf X) X.length []))) i)]) (List.map (fun x => x.fst) (kl (kf X) X.length [])).length []))) (pairsF (kl (kf X) X.length []) (nl (fun i => [AV.int IntKind.i64 (nthZ (sortZ (List.map (fun x => x.fst) (kl (kf X) X.length []))) i)]) (List.map (fun x => x.fst) (kl (kf X) X.length [])).length [])).length []) d2 e2).fst.getD i (0, 0)).snd]) []] true true)) else none else none else none else none else some (AV.tup [AV.raw (Value.slice none 0 0), AV.int IntKind.i64 (Int.ofNat 171)], none) else some (AV.tup [AV.raw (Value.slice none 0 0), AV.int IntKind.i64 (Int.ofNat 171)], none) else none) := by kernel_rfl
theorem evSho32f (X : List (Int × Int)) (a b c d e a2 b2 c2 d2 e2 : Int) : evFn Try.prog KCI LCI (regB Try.prog) 60 26 [.lst 2 (kf X) X.length [], .int .u8 32, .bool false, vB a b c d e, vB a2 b2 c2 d2 e2] ⟨0, []⟩ kSho =
  (bif okL (kf X) X.length [] then bif chkE (kl (kf X) X.length []) != Int.ofNat 0 then bif chkE (kl (kf X) X.length []) != Int.ofNat 0 then some (AV.tup [AV.raw (Value.slice none 0 0), AV.int IntKind.i64 (chkE (kl (kf X) X.length []))], none) else bif ptrB a b c d e then bif bif true then a2 == Int.ofNat 3 && (b2 == Int.ofNat 0 && (c2 == Int.ofNat 0 && true) && (d2 == Int.ofNat 0 && (e2 == Int.ofNat 0 && true))) else false then none else bif a == Int.ofNat 3 && (b == Int.ofNat 0 && (c == Int.ofNat 0 && true) && (d == Int.ofNat 0 && (e == Int.ofNat 0 && true))) then bif bif true then ptrB a2 b2 c2 d2 e2 else false then none else some (AV.tup [AV.raw (Value.slice none 0 0), AV.int IntKind.i64 (Int.ofNat 171)], none) else some (AV.tup [AV.raw (Value.slice none 0 0), AV.int IntKind.i64 (Int.ofNat 171)], none) else bif a == Int.ofNat 3 && (b == Int.ofNat 0 && (c == Int.ofNat 0 && true) && (d 
    == Int.ofNat 0 && (e == Int.ofNat 0 && true))) then bif bif true then ptrB a2 b2 c2 d2 e2 else false then none else some (AV.tup [AV.raw (Value.slice none 0 0), AV.int IntKind.i64 (Int.ofNat 171)], none) else some (AV.tup [AV.raw (Value.slice none 0 0), AV.int IntKind.i64 (Int.ofNat 171)], none) else bif ptrB a b c d e then bif bif true then a2 == Int.ofNat 3 && (b2 == Int.ofNat 0 && (c2 == Int.ofNat 0 && true) && (d2 == Int.ofNat 0 && (e2 == Int.ofNat 0 && true))) else false then bif ((kl (kf X) X.length []).length * 8).ble 140737488355328 && allZ (kl (kf X) X.length []) then bif true && decide (Int.ofNat (List.map (fun x => x.fst) (kl (kf X) X.length [])).length = Int.ofNat (List.map (fun x => x.fst) (kl (kf X) X.length [])).length) && true && (List.map (fun x => x.fst) (kl (kf X) X.length [])).length.blt 1000000 && okN (fun i => [AV.int IntKind.i64 (nthZ (sortZ (List.map (fun x => 
    x.fst) (kl (kf X) X.length []))) i)]) (List.map (fun x => x.fst) (kl (kf X) X.length [])).length [] && (decide ((List.map (fun x => x.fst) (kl (kf X) X.length [])).length = (List.map (fun x => x.fst) (kl (kf X) X.length [])).length) && decide ((List.map (fun x => x.fst) (kl (kf X) X.length [])).length = (List.map (fun x => x.fst) (kl (kf X) X.length [])).length)) then bif (add0 0 (pairsF (kl (kf X) X.length []) (nl (fun i => [AV.int IntKind.i64 (nthZ (sortZ (List.map (fun x => x.fst) (kl (kf X) X.length []))) i)]) (List.map (fun x => x.fst) (kl (kf X) X.length [])).length [])).length).ble (pairsF (kl (kf X) X.length []) (nl (fun i => [AV.int IntKind.i64 (nthZ (sortZ (List.map (fun x => x.fst) (kl (kf X) X.length []))) i)]) (List.map (fun x => x.fst) (kl (kf X) X.length [])).length [])).length then bif okL (kf (pairsF (kl (kf X) X.length []) (nl (fun i => [AV.int IntKind.i64 (nthZ (sortZ 
    (List.map (fun x => x.fst) (kl (kf X) X.length []))) i)]) (List.map (fun x => x.fst) (kl (kf X) X.length [])).length []))) (pairsF (kl (kf X) X.length []) (nl (fun i => [AV.int IntKind.i64 (nthZ (sortZ (List.map (fun x => x.fst) (kl (kf X) X.length []))) i)]) (List.map (fun x => x.fst) (kl (kf X) X.length [])).length [])).length [] then some (AV.tup [AV.slc 7 [] 0 0 2 (prvF (kl (kf (pairsF (kl (kf X) X.length []) (nl (fun i => [AV.int IntKind.i64 (nthZ (sortZ (List.map (fun x => x.fst) (kl (kf X) X.length []))) i)]) (List.map (fun x => x.fst) (kl (kf X) X.length [])).length []))) (pairsF (kl (kf X) X.length []) (nl (fun i => [AV.int IntKind.i64 (nthZ (sortZ (List.map (fun x => x.fst) (kl (kf X) X.length []))) i)]) (List.map (fun x => x.fst) (kl (kf X) X.length [])).length [])).length []) d (IntKind.i64.wrap (e + 1))).fst.length (prvF (kl (kf (pairsF (kl (kf X) X.length []) (nl (fun i => 
    [AV.int IntKind.i64 (nthZ (sortZ (List.map (fun x => x.fst) (kl (kf X) X.length []))) i)]) (List.map (fun x => x.fst) (kl (kf X) X.length [])).length []))) (pairsF (kl (kf X) X.length []) (nl (fun i => [AV.int IntKind.i64 (nthZ (sortZ (List.map (fun x => x.fst) (kl (kf X) X.length []))) i)]) (List.map (fun x => x.fst) (kl (kf X) X.length [])).length [])).length []) d (IntKind.i64.wrap (e + 1))).fst.length, AV.int IntKind.i64 (prvF (kl (kf (pairsF (kl (kf X) X.length []) (nl (fun i => [AV.int IntKind.i64 (nthZ (sortZ (List.map (fun x => x.fst) (kl (kf X) X.length []))) i)]) (List.map (fun x => x.fst) (kl (kf X) X.length [])).length []))) (pairsF (kl (kf X) X.length []) (nl (fun i => [AV.int IntKind.i64 (nthZ (sortZ (List.map (fun x => x.fst) (kl (kf X) X.length []))) i)]) (List.map (fun x => x.fst) (kl (kf X) X.length [])).length [])).length []) d (IntKind.i64.wrap (e + 1))).snd], some 
    (Row.cells [AV.arr 2 (prvF (kl (kf (pairsF (kl (kf X) X.length []) (nl (fun i => [AV.int IntKind.i64 (nthZ (sortZ (List.map (fun x => x.fst) (kl (kf X) X.length []))) i)]) (List.map (fun x => x.fst) (kl (kf X) X.length [])).length []))) (pairsF (kl (kf X) X.length []) (nl (fun i => [AV.int IntKind.i64 (nthZ (sortZ (List.map (fun x => x.fst) (kl (kf X) X.length []))) i)]) (List.map (fun x => x.fst) (kl (kf X) X.length [])).length [])).length []) d (IntKind.i64.wrap (e + 1))).fst.length (fun i => [AV.int IntKind.i64 ((prvF (kl (kf (pairsF (kl (kf X) X.length []) (nl (fun i => [AV.int IntKind.i64 (nthZ (sortZ (List.map (fun x => x.fst) (kl (kf X) X.length []))) i)]) (List.map (fun x => x.fst) (kl (kf X) X.length [])).length []))) (pairsF (kl (kf X) X.length []) (nl (fun i => [AV.int IntKind.i64 (nthZ (sortZ (List.map (fun x => x.fst) (kl (kf X) X.length []))) i)]) (List.map (fun x => x.fst) 
    (kl (kf X) X.length [])).length [])).length []) d (IntKind.i64.wrap (e + 1))).fst.getD i (0, 0)).fst, AV.int IntKind.i64 ((prvF (kl (kf (pairsF (kl (kf X) X.length []) (nl (fun i => [AV.int IntKind.i64 (nthZ (sortZ (List.map (fun x => x.fst) (kl (kf X) X.length []))) i)]) (List.map (fun x => x.fst) (kl (kf X) X.length [])).length []))) (pairsF (kl (kf X) X.length []) (nl (fun i => [AV.int IntKind.i64 (nthZ (sortZ (List.map (fun x => x.fst) (kl (kf X) X.length []))) i)]) (List.map (fun x => x.fst) (kl (kf X) X.length [])).length [])).length []) d (IntKind.i64.wrap (e + 1))).fst.getD i (0, 0)).snd]) []] true true)) else none else none else none else none else bif a == Int.ofNat 3 && (b == Int.ofNat 0 && (c == Int.ofNat 0 && true) && (d == Int.ofNat 0 && (e == Int.ofNat 0 && true))) then bif bif true then ptrB a2 b2 c2 d2 e2 else false then bif ((kl (kf X) X.length []).length * 8).ble 
    140737488355328 && allZ (kl (kf X) X.length []) then bif true && decide (Int.ofNat (List.map (fun x => x.fst) (kl (kf X) X.length [])).length = Int.ofNat (List.map (fun x => x.fst) (kl (kf X) X.length [])).length) && true && (List.map (fun x => x.fst) (kl (kf X) X.length [])).length.blt 1000000 && okN (fun i => [AV.int IntKind.i64 (nthZ (sortZ (List.map (fun x => x.fst) (kl (kf X) X.length []))) i)]) (List.map (fun x => x.fst) (kl (kf X) X.length [])).length [] && (decide ((List.map (fun x => x.fst) (kl (kf X) X.length [])).length = (List.map (fun x => x.fst) (kl (kf X) X.length [])).length) && decide ((List.map (fun x => x.fst) (kl (kf X) X.length [])).length = (List.map (fun x => x.fst) (kl (kf X) X.length [])).length)) then some (AV.tup [AV.slc 6 [] 0 0 2 (pairsF (kl (kf X) X.length []) (nl (fun i => [AV.int IntKind.i64 (nthZ (sortZ (List.map (fun x => x.fst) (kl (kf X) X.length []))) 
    i)]) (List.map (fun x => x.fst) (kl (kf X) X.length [])).length [])).length (pairsF (kl (kf X) X.length []) (nl (fun i => [AV.int IntKind.i64 (nthZ (sortZ (List.map (fun x => x.fst) (kl (kf X) X.length []))) i)]) (List.map (fun x => x.fst) (kl (kf X) X.length [])).length [])).length, AV.int IntKind.i64 (Int.ofNat 0)], some (Row.cells [AV.arr 2 (pairsF (kl (kf X) X.length []) (nl (fun i => [AV.int IntKind.i64 (nthZ (sortZ (List.map (fun x => x.fst) (kl (kf X) X.length []))) i)]) (List.map (fun x => x.fst) (kl (kf X) X.length [])).length [])).length (fun i => [AV.int IntKind.i64 ((pairsF (kl (kf X) X.length []) (nl (fun i => [AV.int IntKind.i64 (nthZ (sortZ (List.map (fun x => x.fst) (kl (kf X) X.length []))) i)]) (List.map (fun x => x.fst) (kl (kf X) X.length [])).length [])).getD i (0, 0)).fst, AV.int IntKind.i64 ((pairsF (kl (kf X) X.length []) (nl (fun i => [AV.int IntKind.i64 (nthZ 
    (sortZ (List.map (fun x => x.fst) (kl (kf X) X.length []))) i)]) (List.map (fun x => x.fst) (kl (kf X) X.length [])).length [])).getD i (0, 0)).snd]) []] true true)) else none else none else some (AV.tup [AV.raw (Value.slice none 0 0), AV.int IntKind.i64 (Int.ofNat 171)], none) else some (AV.tup [AV.raw (Value.slice none 0 0), AV.int IntKind.i64 (Int.ofNat 171)], none) else bif a == Int.ofNat 3 && (b == Int.ofNat 0 && (c == Int.ofNat 0 && true) && (d == Int.ofNat 0 && (e == Int.ofNat 0 && true))) then bif bif true then ptrB a2 b2 c2 d2 e2 else false then bif ((kl (kf X) X.length []).length * 8).ble 140737488355328 && allZ (kl (kf X) X.length []) then bif true && decide (Int.ofNat (List.map (fun x => x.fst) (kl (kf X) X.length [])).length = Int.ofNat (List.map (fun x => x.fst) (kl (kf X) X.length [])).length) && true && (List.map (fun x => x.fst) (kl (kf X) X.length [])).length.blt 
    1000000 && okN (fun i => [AV.int IntKind.i64 (nthZ (sortZ (List.map (fun x => x.fst) (kl (kf X) X.length []))) i)]) (List.map (fun x => x.fst) (kl (kf X) X.length [])).length [] && (decide ((List.map (fun x => x.fst) (kl (kf X) X.length [])).length = (List.map (fun x => x.fst) (kl (kf X) X.length [])).length) && decide ((List.map (fun x => x.fst) (kl (kf X) X.length [])).length = (List.map (fun x => x.fst) (kl (kf X) X.length [])).length)) then some (AV.tup [AV.slc 6 [] 0 0 2 (pairsF (kl (kf X) X.length []) (nl (fun i => [AV.int IntKind.i64 (nthZ (sortZ (List.map (fun x => x.fst) (kl (kf X) X.length []))) i)]) (List.map (fun x => x.fst) (kl (kf X) X.length [])).length [])).length (pairsF (kl (kf X) X.length []) (nl (fun i => [AV.int IntKind.i64 (nthZ (sortZ (List.map (fun x => x.fst) (kl (kf X) X.length []))) i)]) (List.map (fun x => x.fst) (kl (kf X) X.length [])).length [])).length, 
    AV.int IntKind.i64 (Int.ofNat 0)], some (Row.cells [AV.arr 2 (pairsF (kl (kf X) X.length []) (nl (fun i => [AV.int IntKind.i64 (nthZ (sortZ (List.map (fun x => x.fst) (kl (kf X) X.length []))) i)]) (List.map (fun x => x.fst) (kl (kf X) X.length [])).length [])).length (fun i => [AV.int IntKind.i64 ((pairsF (kl (kf X) X.length []) (nl (fun i => [AV.int IntKind.i64 (nthZ (sortZ (List.map (fun x => x.fst) (kl (kf X) X.length []))) i)]) (List.map (fun x => x.fst) (kl (kf X) X.length [])).length [])).getD i (0, 0)).fst, AV.int IntKind.i64 ((pairsF (kl (kf X) X.length []) (nl (fun i => [AV.int IntKind.i64 (nthZ (sortZ (List.map (fun x => x.fst) (kl (kf X) X.length []))) i)]) (List.map (fun x => x.fst) (kl (kf X) X.length [])).length [])).getD i (0, 0)).snd]) []] true true)) else none else none else some (AV.tup [AV.raw (Value.slice none 0 0), AV.int IntKind.i64 (Int.ofNat 171)], none) else 
    some (AV.tup [AV.raw (Value.slice none 0 0), AV.int IntKind.i64 (Int.ofNat 171)], none) else none) := by kernel_rfl
end Go.Sv
