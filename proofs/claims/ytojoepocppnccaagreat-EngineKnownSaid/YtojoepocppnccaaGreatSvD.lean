/- A second evaluator for the model's code: new lists, clearing, copying. -/
import Derived.Test.YtojoepocppnccaaGreatSvC
import Derived.Test.YtojoepocppnccaaGreatSvB2
namespace Go.Sv
noncomputable section
open Go.RowKit
variable {P : Program}

section
variable {R : Type} (P)
def makeSliceE (t : TypeId) (x y : Operand) (E : Env) (st : AS) (k : Ent → Option R) : Option R :=
  match P.underlying t with
  | some (.slice e) => match P.info? e with
    | some i => match i.zero with
      | some _ => match zeroT P e with
        | some c => match aeval E x, aeval E y with
          | some (.int _ l), some (.int _ n) => bif Nat.ble 1 i.bytes && (Nat.ble 1 i.size && Nat.beq (cw c) i.size) then
              bif decide (0 ≤ l) then bif decide (l ≤ n) then bif decide ((i.bytes : Int) * n ≤ (LIM : Int)) then
                bif rawIn c then k ⟨.slc st.next [] 0 0 i.size l.toNat n.toNat, [(st.next, some (.cells (List.replicate n.toNat c).flatten true false))], 1, []⟩ else
                k ⟨.slc st.next [] 0 0 i.size l.toNat n.toNat, [(st.next, some (.cells [.arr i.size n.toNat (fun _ => c) []] true false))], 1, []⟩
              else none else none else none else none
          | _, _ => none
        | none => none
      | none => none
    | none => none
  | _ => none
end
theorem makeSliceE_ok (hZ : ZerosOk P) {R : Type} {o : Oper} {t : TypeId} {x y : Operand} (ho : o.op = .makeSlice t x y) {E : Env} {st : AS} {k : Ent → Option R} {r : R} (h : makeSliceE P t x y E st k = some r) :
    ∃ e, k e = some r ∧ OpOk P o E st.next (find st.mem) e := by
  have hmx : x ∈ o.op.operands := by rw [ho]; simp [Op.operands]
  have hmy : y ∈ o.op.operands := by rw [ho]; simp [Op.operands]
  unfold makeSliceE at h
  split at h
  · rename_i e ht
    split at h
    · rename_i i hi
      split at h
      · rename_i z hz
        split at h
        · rename_i c hc
          split at h
          · rename_i kd l kd' n hx hy
            obtain ⟨hb, h⟩ := cond_some h
            simp only [Bool.and_eq_true] at hb
            have hb1 := Nat.le_of_ble_eq_true hb.1
            have hs1 := Nat.le_of_ble_eq_true hb.2.1
            have hcw := Nat.eq_of_beq_eq_true hb.2.2
            obtain ⟨h0, h⟩ := cond_some h
            obtain ⟨h1, h⟩ := cond_some h
            obtain ⟨h2, h⟩ := cond_some h
            have h0 := of_decide_eq_true h0
            have h1 := of_decide_eq_true h1
            have h2 := of_decide_eq_true h2
            have gen : ∀ cc : List AV, (∀ κ : Kap, z.cells.size = i.size ∧ CRel κ cc ((Array.range (n.toNat * i.size)).map (z.cells[· % z.cells.size]!)).toList) → cw cc = n.toNat * i.size →
                OpOk P o E st.next (find st.mem) ⟨.slc st.next [] 0 0 i.size l.toNat n.toNat, [(st.next, some (.cells cc true false))], 1, []⟩ := by
             intro cc hcc hccw κ a w M K Q hA hR hrd hfr hK
             have hzz := zero_of_info hi hz
             obtain ⟨hzs, hzr⟩ := hcc κ
             obtain ⟨k1, k2, k3, k4⟩ := new_row hR (hfr st.next (Nat.le_refl _) (Nat.lt_succ_self _)) (e := e) (rest := []) (tip := false) hzr (fun _ => rfl)
             have hl := hzr.length
             rw [hccw] at hl
             have hn47 : n ≤ 140737488355328 := by
               have : n ≤ (i.bytes : Int) * n := by
                 have h3 : (1 : Int) ≤ i.bytes := by exact_mod_cast hb1
                 have := Int.mul_le_mul_of_nonneg_right h3 (show 0 ≤ n by omega)
                 omega
               simp only [LIM] at h2; omega
             have wl : IntKind.i64.wrap l = l := by simp [IntKind.wrap, IntKind.bits, IntKind.signed]; omega
             have wn : IntKind.i64.wrap n = n := by simp [IntKind.wrap, IntKind.bits, IntKind.signed]; omega
             have hrun : (execOp a.eval o).run P w = .ok (.value (.slice (some ⟨w.heap.size, 0, none⟩) l.toNat n.toNat)) (w.alloc (.cells ((((Array.range (n.toNat * i.size)).map (z.cells[· % z.cells.size]!)).toList ++ []).toArray) e)) := by
               simp only [execOp, ho, int_of (hA x hmx _ hx), int_of (hA y hmy _ hy)]
               refine run_value ?_
               have hu : qrun P (underlying t) = some (.slice e) := by simp [underlying, program, bind, Sem.bind, qrun, ht, pure]
               have hti : qrun P (typeInfo e) = some i := by simp [typeInfo, program, bind, Sem.bind, qrun, hi, pure]
               have hsi : qrun P (sizeOf e) = some i.size := by simp [sizeOf, typeInfo, program, bind, Sem.bind, qrun, hi, pure]
               unfold Instr.makeSlice
               refine (run_q hu).trans ?_
               refine (run_bind_ok (e := asInt (.int kd l)) (a := l) (w' := w) rfl).trans ?_
               refine (run_bind_ok (e := asInt (.int kd' n)) (a := n) (w' := w) rfl).trans ?_
               refine (run_q hti).trans ?_
               simp only [wl, wn]
               have c1 : (decide (n < 0) || decide ((i.bytes : Int) * n > 2 ^ 48)) = false := by
                 simp only [LIM] at h2
                 rw [Bool.or_eq_false_iff]
                 exact ⟨decide_eq_false (by omega), decide_eq_false (by omega)⟩
               have c2 : (decide (n < 0) || decide ((i.bytes : Int) * n > 2 ^ 48) || decide (l < 0) || decide (l > n)) = false := by
                 rw [c1, Bool.false_or, Bool.or_eq_false_iff]
                 exact ⟨decide_eq_false (by omega), decide_eq_false (by omega)⟩
               rw [c2]
               simp only [Bool.false_eq_true, if_false]
               refine (run_bind_ok (e := askRoom (n.toNat * i.bytes)) (a := ()) (w' := w) (by unfold askRoom; split <;> rfl)).trans ?_
               refine (run_q hsi).trans ?_
               by_cases hn0 : n.toNat * i.size = 0
               · simp only [hn0, if_true]
                 refine (run_bind_ok (e := (pure #[] : Sem (Array Value))) (a := #[]) (w' := w) rfl).trans ?_
                 have e0 : ∀ f : Nat → Value, Array.map f (Array.range 0) = #[] := fun f => by apply Array.ext'; simp
                 rw [e0, e0]
                 rfl
               · simp only [hn0, if_false]
                 refine (run_q hzz).trans ?_
                 refine (run_bind_ok (e := (pure z.cells : Sem (Array Value))) (a := z.cells) (w' := w) rfl).trans ?_
                 rw [List.append_nil, Array.toArray_toList]
                 rfl
             refine wp_value hrun (hK _ _ _ k1 (fun n hn => Kap.at_ne (name_ne hn)) ?_ k2 k3)
             refine .slc _ _ _ _ _ _ _ w.heap.size n.toNat _ k4 (.inr ⟨by simp [plen], _, by simp only [Kap.new, Kap.at, Kap.blk, if_true]; rfl, by rw [List.append_nil, hl]; simp [plen]⟩) (Nat.le_refl _) (by omega) .nil
            have hw1 : ∀ m : Nat, cw (List.replicate m c).flatten = m * cw c := fun m => by
              induction m with
              | zero => simp [cw]
              | succ m ih => rw [List.replicate_succ, List.flatten_cons, cw_append, ih, Nat.succ_mul, Nat.add_comm]
            cases hraw : rawIn c with
            | true =>
              rw [hraw, cond_true] at h
              exact ⟨_, h, gen _ (fun κ => zeros_flat hZ hc (zero_of_info hi hz) hcw (by omega) n.toNat κ) (by rw [hw1, hcw])⟩
            | false =>
              rw [hraw, cond_false] at h
              exact ⟨_, h, gen _ (fun κ => zeros_rel hZ hc (zero_of_info hi hz) hcw (by omega) n.toNat κ) (by simp [cw, width])⟩
          · cases h
        · cases h
      · cases h
    · cases h
  · cases h

/-! ### elements in the place of others -/
def midF (a n : Nat) (us : List (Nat × List AV)) (f : Nat → List AV) (vs : List (Nat × List AV)) (g : Nat → List AV) : Nat → List AV := fun j => bif Nat.ble a j && Nat.blt j (a + n) then elt vs g (j - a) else elt us f j
theorem arr_mid {κ : Kap} {w N a n : Nat} {f g : Nat → List AV} {us vs : List (Nat × List AV)} {zs ys : List Value} (h : CRel κ [.arr w N f us] zs) (k : CRel κ [.arr w n g vs] ys) (hle : a + n ≤ N) :
    CRel κ [.arr w N (midF a n us f vs g) []] (splice zs (a * w) ys) ∧ a * w + ys.length ≤ zs.length := by
  obtain ⟨b1, _, _, _⟩ := arr_parts.1 h
  obtain ⟨c1, _, _, _⟩ := arr_parts.1 k
  have h1 := arr_take h (m := a) (by omega)
  have h2 := arr_drop h (a := a + n) hle
  have hm : (a + n) * w ≤ N * w := Nat.mul_le_mul_right w hle
  rw [Nat.add_mul] at hm
  have h3 := arr_cat h1 (arr_cat k h2)
  have e1 : splice zs (a * w) ys = zs.take (a * w) ++ (ys ++ zs.drop ((a + n) * w)) := by
    unfold splice
    rw [c1, Nat.add_mul]
  rw [e1]
  refine ⟨?_, by omega⟩
  have e2 : a + (n + (N - (a + n))) = N := by omega
  rw [e2] at h3
  refine arr_ext h3 fun i hi => ?_
  have blt_iff : ∀ x y : Nat, Nat.blt x y = decide (x < y) := fun x y => by
    cases hb : Nat.blt x y
    · rw [eq_comm, decide_eq_false_iff_not]; intro h; rw [← Nat.blt_eq, hb] at h; cases h
    · rw [Nat.blt_eq] at hb; simp [hb]
  have ble_iff : ∀ x y : Nat, Nat.ble x y = decide (x ≤ y) := fun x y => by
    cases hb : Nat.ble x y
    · rw [eq_comm, decide_eq_false_iff_not]; intro h; rw [Nat.ble_eq_true_of_le h] at hb; cases hb
    · simp [Nat.le_of_ble_eq_true hb]
  simp only [elt, midF, catF, blt_iff, ble_iff]
  by_cases hia : i < a
  · have : ¬ a ≤ i := by omega
    simp [hia, this]
  · by_cases hin : i < a + n
    · have : i - a < n := by omega
      have : a ≤ i := by omega
      simp [*]
    · have h5 : ¬ i - a < n := by omega
      simp only [hia, hin, h5, decide_false, cond_false, Bool.and_false]
      congr 1; omega

section
variable {R : Type} (P)
/-- n elements of a row, from element i of the array at o on, are set. -/
def setElsK (m : List (Nat × Row)) (n o i w cnt : Nat) (vs : List (Nat × List AV)) (g : Nat → List AV) (k : Row → Option R) : Option R :=
  match find m n with
  | some (.cells c true tip) => updAtK c o (fun x k' => match x with
      | .arr w' N f us => bif Nat.beq w w' then bif Nat.ble (add0 i cnt) N then k' (.arr w' N (midF i cnt us f vs g) []) else none else none
      | _ => none) fun c' => k (.cells c' true tip)
  | _ => none
def clearE (t : TypeId) (x : Operand) (E : Env) (m : List (Nat × Row)) (k : Ent → Option R) : Option R :=
  match P.underlying t with
  | some (.slice e) => match P.info? e with
    | some it => match it.zero with
      | some _ => match zeroT P e with
        | some zc => match aeval E x with
          | some (.slc n [] o i w len _) => bif Nat.ble 1 it.size && (Nat.beq w it.size && Nat.beq (cw zc) it.size) then
              setElsK m n o i w len [] (fun _ => zc) fun r => k ⟨.tup [], [(n, some r)], 0, [n]⟩
            else none
          | _ => none
        | none => none
      | none => none
    | none => none
  | _ => none
def copyE (t tx : TypeId) (x y : Operand) (E : Env) (m : List (Nat × Row)) (k : Ent → Option R) : Option R :=
  match P.underlying t with
  | some (.slice e) => match P.info? e with
    | some it => match aeval E y with
      | some yv => bif kindOk P tx yv && Nat.ble 1 it.size then srcK m yv fun W f us cnt rd => bif Nat.beq W it.size || Nat.beq cnt 0 then
          match aeval E x with
          | some (.slc n [] o i w len _) => bif Nat.beq w it.size then
              bif Nat.ble cnt len then setElsK m n o i w cnt us f fun r => k ⟨.int .i64 (cnt : Int), [(n, some r)], 0, n :: rd⟩ else none
            else none
          | _ => none
        else none else none
      | none => none
    | none => none
  | _ => none
end
theorem splice_in {α : Type} (z1 zc z3 : List α) (a : Nat) (ys : List α) (h : a + ys.length ≤ zc.length) : splice (z1 ++ (zc ++ z3)) (z1.length + a) ys = z1 ++ (splice zc a ys ++ z3) := by
  apply List.ext_getElem?
  intro k
  rw [splice_get _ _ _ (by simp; omega)]
  rw [List.getElem?_append (l₁ := z1), List.getElem?_append (l₁ := z1)]
  by_cases h1 : k < z1.length
  · rw [if_pos h1, if_neg (by omega), if_pos h1]
  · rw [if_neg h1, if_neg h1, List.getElem?_append, List.getElem?_append, splice_length _ _ _ h]
    by_cases h2 : k - z1.length < zc.length
    · rw [if_pos h2, if_pos h2, splice_get _ _ _ h]
      by_cases h3 : a ≤ k - z1.length ∧ k - z1.length < a + ys.length
      · rw [if_pos h3, if_pos (by omega)]
        congr 1; omega
      · rw [if_neg h3, if_neg (by omega)]
    · rw [if_neg h2, if_neg h2, if_neg (by omega)]
theorem chunk_mid {κ : Kap} {pre post : List AV} {w N i cnt : Nat} {f g : Nat → List AV} {us vs : List (Nat × List AV)} {zs ys : List Value} (h : CRel κ (pre ++ .arr w N f us :: post) zs) (k : CRel κ [.arr w cnt g vs] ys) (hle : i + cnt ≤ N) :
    CRel κ (pre ++ .arr w N (midF i cnt us f vs g) [] :: post) (splice zs (cw pre + i * w) ys) ∧ cw pre + i * w + ys.length ≤ zs.length := by
  obtain ⟨z1, z', rfl, a1, a2⟩ := h.split
  have a2' : CRel κ ([.arr w N f us] ++ post) z' := a2
  obtain ⟨zc, z3, rfl, a3, a4⟩ := a2'.split
  obtain ⟨q1, q2⟩ := arr_mid a3 k hle
  have l1 := a1.length
  rw [← l1, splice_in _ _ _ _ _ q2]
  refine ⟨a1.append (q1.append a4), by simp; omega⟩

/-- Storing those elements: the row, and the world. -/
theorem setElsK_ok {R : Type} {m : List (Nat × Row)} {n o i w cnt : Nat} {vs : List (Nat × List AV)} {g : Nat → List AV} {k : Row → Option R} {r : R} (h : setElsK m n o i w cnt vs g k = some r) :
    ∃ row, k row = some r ∧ ∀ (κ : Kap) (wd : World) (M : Mem), MRel κ M wd → M n = find m n → ∀ {len cap : Nat} {u : Value}, VRel κ (.slc n [] o i w len cap) u → cnt ≤ len → ∀ {ys : List Value}, CRel κ [.arr w cnt g vs] ys →
      (cnt = 0 ∧ MRel κ (M.set n (some row)) wd ∧ Fr κ M wd κ (M.set n (some row)) wd) ∨
      ∃ b off cap' wd', u = .slice (some ⟨b, off, none⟩) len cap' ∧ (storeCells ⟨b, off, none⟩ ys).run P wd = .ok () wd' ∧ MRel κ (M.set n (some row)) wd' ∧ Fr κ M wd κ (M.set n (some row)) wd' := by
  unfold setElsK at h
  split at h
  · rename_i c tip hf
    obtain ⟨pre, x, post, rfl, h1, h2⟩ := updAtK_some _ _ _ h
    split at h2
    · rename_i w' N f us
      obtain ⟨hw, h3⟩ := cond_some h2
      obtain ⟨hN, h4⟩ := cond_some h3
      have hw := Nat.eq_of_beq_eq_true hw
      subst hw
      have hN := Nat.le_of_ble_eq_true hN
      rw [add0_eq] at hN
      refine ⟨_, h4, fun κ wd M hR hMf len cap u hv hcl ys hys => ?_⟩
      have hM : M n = some (.cells (pre ++ .arr w N f us :: post) true tip) := by rw [hMf]; exact hf
      have hyl : ys.length = cnt * w := (arr_parts.1 hys).1
      have hone := (arr_parts.1 hys).2.1
      rcases hR.row n _ hM with ⟨g1, g2⟩ | ⟨b, zs, rest, e, fr, g1, g2, g3, g4, g5, g6, g7⟩
      · have hl0 : len = 0 := by
          cases hv with
          | slc _ _ _ _ _ _ _ b cap' a k1 k2 k3 k4 _ => rw [g1] at k1; cases k1
          | slc0 _ _ _ _ _ k1 _ => rfl
        have hc0 : cnt = 0 := by omega
        subst hc0
        have hy0 : ys = [] := by simpa using hyl
        subst hy0
        obtain ⟨q1, q2⟩ := chunk_mid g2 hys hN
        have e0 : splice ([] : List Value) (cw pre + i * w) [] = [] := by simp [splice]
        rw [e0] at q1
        refine .inl ⟨rfl, ⟨hR.szlt, hR.stable, fun m' r' hm' => ?_, fun m1 m2 r1 r2 b h1 h2 h3 h4 h5 => ?_⟩, (fun _ _ h => .inl h), rfl, rfl, rfl, Nat.le_refl _, fun _ _ _ => rfl, fun b hb ho => ?_⟩
        · by_cases e : m' = n
          · subst e; rw [Mem.set_same] at hm'; cases hm'; exact .inl ⟨g1, q1⟩
          · rw [Mem.set_ne _ _ e] at hm'; exact hR.row m' r' hm'
        · by_cases e : m1 = n
          · subst e; rw [g1] at h3; cases h3
          · by_cases e' : m2 = n
            · subst e'; rw [g1] at h4; cases h4
            · rw [Mem.set_ne _ _ e] at h1; rw [Mem.set_ne _ _ e'] at h2
              exact hR.inj m1 m2 r1 r2 b h1 h2 h3 h4 h5
        · obtain ⟨m', r', a1, a2, a3⟩ := ho
          by_cases e : m' = n
          · subst e; rw [g1] at a3; cases a3
          · rw [Mem.set_ne _ _ e] at a1; exact ⟨m', r', a1, a2, a3⟩
      · obtain ⟨rfl, hst⟩ := g5 rfl
        obtain ⟨q1, q2⟩ := chunk_mid g3 hys hN
        have hrow : ∀ wd' : World, wd'.heap[b]? = some (.cells (splice zs (cw pre + i * w) ys ++ rest).toArray e (0, 0)) → RowRel κ wd' n (.cells (pre ++ .arr w N (midF i cnt us f vs g) [] :: post) true tip) := fun wd' hb =>
          .inr ⟨b, _, rest, e, (0, 0), g1, hb, q1, g4, fun _ => ⟨rfl, hst⟩, (fun h => by cases h), by rw [g7]; simp [splice_length _ _ _ q2]⟩
        obtain ⟨k1, k2⟩ := hR.put hM rfl g1 (hrow (World.putBlk wd b (.cells (splice zs (cw pre + i * w) ys ++ rest).toArray e (0, 0))) (putBlk_same g2))
        by_cases hc0 : cnt = 0
        · subst hc0
          have hy0 : ys = [] := by simpa using hyl
          subst hy0
          have e0 : splice zs (cw pre + i * w) ([] : List Value) = zs := by simp [splice]
          rw [e0, putBlk_id g2] at k1 k2
          exact .inl ⟨rfl, k1, k2⟩
        · cases hv with
          | slc0 _ _ _ _ _ k1 _ => omega
          | slc _ _ _ _ _ _ _ b' cap' a p1 p2 p3 p4 _ =>
            rw [g1] at p1; cases p1
            obtain ⟨ha, _⟩ := p2.resolve_left (by omega)
            subst ha
            have hoff : plen [] + o + i * w = cw pre + i * w := by simp [plen, h1]
            rw [hoff]
            refine .inr ⟨b, cw pre + i * w, cap', _, rfl, ?_, k1, k2⟩
            have := run_storeCells (P := P) (cw pre + i * w) ys 0 (zs ++ rest).toArray wd g2 (by simp; omega) hone
            rw [this]
            congr 4
            unfold splice
            simp only [Nat.add_zero, List.take_append_of_le_length (show cw pre + i * w ≤ zs.length by omega), List.drop_append_of_le_length q2, List.append_assoc]
    · cases h2
  · cases h
end
end Go.Sv
