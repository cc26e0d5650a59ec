/- A second evaluator for the model's code: new variables, structs, lists. -/
import Derived.Test.YtojoepocppnccaaGreatSv6
import Derived.Laws.Tables
namespace Go.Sv
noncomputable section
open Go.RowKit
variable {P : Program}

/-! ### zero values, by the types' shapes -/
def zeroFs (rec : TypeId → Option (List AV)) : List Field → Option (List AV)
  | [] => some []
  | f :: fs => match rec f.type with
    | some c => match zeroFs rec fs with
      | some cs => some (c ++ cs)
      | none => none
    | none => none
/-- Cells that may come to bear names: pointers, slices, maps, functions, interfaces. -/
def rawIn (c : List AV) : Bool := c.any fun x => match x with
  | .raw _ => true
  | _ => false
def zeroC (P : Program) : Nat → TypeId → Option (List AV)
  | 0, _ => none
  | d + 1, t => match qrun P (underlying t) with
    | some .bool => some [.bool false]
    | some (.int k) => some [.int k 0]
    | some .string => some [.str []]
    | some (.pointer _) => some [.raw (.pointer none)]
    | some (.slice _) => some [.raw (.slice none 0 0)]
    | some (.map _ _) => some [.raw (.map none)]
    | some (.func _ _ _) => some [.raw .nilFunc]
    | some (.interface _) => some [.raw .nilIface]
    | some (.struct fs) => zeroFs (zeroC P d) fs.toList
    | some (.array n e) => match zeroC P d e with
      | some c => bif rawIn c then some (List.replicate n c).flatten else match qrun P (sizeOf e) with
        | some s => bif Nat.beq (cw c) s then some [.arr s n (fun _ => c) []] else none
        | none => none
      | none => none
    | _ => none
def zeroVs (rec : TypeId → Option (List Value)) : List Field → Option (List Value)
  | [] => some []
  | f :: fs => match rec f.type with
    | some c => match zeroVs rec fs with
      | some cs => some (c ++ cs)
      | none => none
    | none => none
def zeroV (P : Program) : Nat → TypeId → Option (List Value)
  | 0, _ => none
  | d + 1, t => match qrun P (underlying t) with
    | some .bool => some [.bool false]
    | some (.int k) => some [.int k 0]
    | some .string => some [.string ⟨#[]⟩]
    | some (.pointer _) => some [.pointer none]
    | some (.slice _) => some [.slice none 0 0]
    | some (.map _ _) => some [.map none]
    | some (.func _ _ _) => some [.nilFunc]
    | some (.interface _) => some [.nilIface]
    | some (.struct fs) => zeroVs (zeroV P d) fs.toList
    | some (.array n e) => match zeroV P d e with
      | some c => some (List.replicate n c).flatten
      | none => none
    | _ => none
theorem rep_len {α : Type} (c : List α) : ∀ n, ((List.replicate n c).flatten).length = n * c.length
  | 0 => by simp
  | n + 1 => by rw [List.replicate_succ, List.flatten_cons, List.length_append, rep_len c n, Nat.succ_mul, Nat.add_comm]
theorem rep_elem {α : Type} (c : List α) : ∀ (n i : Nat), i < n → (((List.replicate n c).flatten).drop (i * c.length)).take c.length = c
  | 0, i, h => by omega
  | n + 1, 0, _ => by simp [List.replicate_succ]
  | n + 1, i + 1, h => by
    rw [List.replicate_succ, List.flatten_cons, Nat.succ_mul, Nat.add_comm, ← List.drop_drop, List.drop_left']
    · exact rep_elem c n i (by omega)
    · rfl
theorem rep_rel {κ : Kap} {c : List AV} {zs : List Value} (h : CRel κ c zs) : ∀ n, CRel κ (List.replicate n c).flatten (List.replicate n zs).flatten
  | 0 => .nil
  | n + 1 => by
    rw [List.replicate_succ, List.replicate_succ, List.flatten_cons, List.flatten_cons]
    exact h.append (rep_rel h n)
theorem zeroC_ok : ∀ (d : Nat) (t : TypeId) (c : List AV), zeroC P d t = some c → ∃ zs, zeroV P d t = some zs ∧ (∀ z ∈ zs, oneV z = true) ∧ ∀ κ, CRel κ c zs
  | 0, t, c, h => by simp [zeroC] at h
  | d + 1, t, c, h => by
    simp only [zeroC] at h
    simp only [zeroV]
    split at h
    · rename_i hu; simp only [Option.some.injEq] at h; subst h; exact ⟨_, rfl, by simp [oneV], fun κ => .bool _ .nil⟩
    · rename_i k hu; simp only [Option.some.injEq] at h; subst h; exact ⟨_, rfl, by simp [oneV], fun κ => .int _ _ .nil⟩
    · rename_i hu; simp only [Option.some.injEq] at h; subst h; exact ⟨_, rfl, by simp [oneV], fun κ => .str [] .nil⟩
    · rename_i e hu; simp only [Option.some.injEq] at h; subst h; exact ⟨_, rfl, by simp [oneV], fun κ => .raw _ .nil⟩
    · rename_i e hu; simp only [Option.some.injEq] at h; subst h; exact ⟨_, rfl, by simp [oneV], fun κ => .raw _ .nil⟩
    · rename_i e1 e2 hu; simp only [Option.some.injEq] at h; subst h; exact ⟨_, rfl, by simp [oneV], fun κ => .raw _ .nil⟩
    · rename_i e1 e2 e3 hu; simp only [Option.some.injEq] at h; subst h; exact ⟨_, rfl, by simp [oneV], fun κ => .raw _ .nil⟩
    · rename_i e hu; simp only [Option.some.injEq] at h; subst h; exact ⟨_, rfl, by simp [oneV], fun κ => .raw _ .nil⟩
    · rename_i fs hu
      have key : ∀ (fs : List Field) (c : List AV), zeroFs (zeroC P d) fs = some c → ∃ zs, zeroVs (zeroV P d) fs = some zs ∧ (∀ z ∈ zs, oneV z = true) ∧ ∀ κ, CRel κ c zs := by
        intro fs
        induction fs with
        | nil => intro c h; simp only [zeroFs, Option.some.injEq] at h; subst h; exact ⟨[], rfl, by simp, fun κ => .nil⟩
        | cons f fs ih =>
          intro c h
          simp only [zeroFs] at h
          split at h
          · rename_i c1 h1
            split at h
            · rename_i c2 h2
              simp only [Option.some.injEq] at h; subst h
              obtain ⟨z1, a1, a2, a3⟩ := zeroC_ok d _ _ h1
              obtain ⟨z2, b1, b2, b3⟩ := ih _ h2
              refine ⟨z1 ++ z2, by simp only [zeroVs, a1, b1], fun z hz => ?_, fun κ => (a3 κ).append (b3 κ)⟩
              rcases List.mem_append.1 hz with h | h
              · exact a2 z h
              · exact b2 z h
            · cases h
          · cases h
      exact key _ _ h
    · rename_i n e hu
      split at h
      · rename_i c1 h1
        cases hraw : rawIn c1 with
        | true =>
          rw [hraw] at h
          simp only [cond_true, Option.some.injEq] at h; subst h
          obtain ⟨z1, a1, a2, a3⟩ := zeroC_ok d _ _ h1
          refine ⟨(List.replicate n z1).flatten, by simp only [a1], fun z hz => ?_, fun κ => rep_rel (a3 κ) n⟩
          obtain ⟨l, hl, hz⟩ := List.mem_flatten.1 hz
          rw [List.eq_of_mem_replicate hl] at hz
          exact a2 z hz
        | false =>
        rw [hraw, cond_false] at h
        split at h
        · rename_i s hs
          obtain ⟨hb, h⟩ := cond_some h
          have hb := Nat.eq_of_beq_eq_true hb
          simp only [Option.some.injEq] at h; subst h
          obtain ⟨z1, a1, a2, a3⟩ := zeroC_ok d _ _ h1
          have hl : z1.length = s := by rw [(a3 ⟨fun _ => none, fun _ => none, fun _ => undef, fun _ => none⟩).length, hb]
          refine ⟨(List.replicate n z1).flatten, by simp only [a1], fun z hz => ?_, fun κ => ?_⟩
          · obtain ⟨l, hl, hz⟩ := List.mem_flatten.1 hz
            rw [List.eq_of_mem_replicate hl] at hz
            exact a2 z hz
          · refine .arr s n _ [] (List.replicate n z1).flatten (by rw [rep_len, hl]) (fun z hz => ?_) (fun i _ => hb) (fun i hi => ?_) (by simp) .nil
            · obtain ⟨l, hl, hz⟩ := List.mem_flatten.1 hz
              rw [List.eq_of_mem_replicate hl] at hz
              exact a2 z hz
            · have := rep_elem z1 n i hi
              rw [hl] at this
              rw [this]; exact a3 κ.nl
        · cases h
      · cases h
    · cases h
/-- The program's own zero values are those. -/
def ZerosOk (P : Program) : Prop := ∀ t zs z, t < P.types.size → zeroV P 8 t = some zs → qrun P (zeroValue t) = some z → z.cells.toList = zs

/-- The zero value of a type of the program's table. -/
def zeroT (P : Program) (t : TypeId) : Option (List AV) := bif Nat.blt t P.types.size then zeroC P 8 t else none
theorem zero_rel (hZ : ZerosOk P) {t : TypeId} {c : List AV} (hc : zeroT P t = some c) {z : Value} (hz : qrun P (zeroValue t) = some z) : (∀ v ∈ z.cells.toList, oneV v = true) ∧ ∀ κ, CRel κ c z.cells.toList := by
  obtain ⟨hlt, hc⟩ := cond_some hc
  obtain ⟨zs, h1, h2, h3⟩ := zeroC_ok 8 t c hc
  rw [hZ t zs z (by simpa [Nat.blt_eq] using hlt) h1 hz]
  exact ⟨h2, h3⟩

section
variable {R : Type} (P)
def allocE (t : TypeId) (st : AS) (k : Ent → Option R) : Option R :=
  match qrun P (zeroValue t) with
  | some _ => match zeroT P t with
    | some c => k ⟨.ptr st.next [] 0, [(st.next, some (.cells c true false))], 1, []⟩
    | none => none
  | none => none
def boxE (x : Operand) (E : Env) (st : AS) (k : Ent → Option R) : Option R :=
  match aeval E x with
  | some v => bif celled v && flatC (cells v) then k ⟨.ptr st.next [] 0, [(st.next, some (.cells (cells v) true false))], 1, []⟩ else none
  | none => none
end

theorem name_ne {n x : Nat} (h : n < x ∨ x + 1 ≤ n) : n ≠ x := by omega
/-- A new block for a row. -/
theorem new_row {κ : Kap} {M : Mem} {w : World} (h : MRel κ M w) {n : Nat} (hn : κ.loc n = none) {c : List AV} {zs rest : List Value} {e : TypeId} (hc : CRel κ c zs) {tip : Bool} (ht : tip = false → rest = []) :
    κ.le (κ.new n w.heap.size (zs ++ rest).length) ∧ MRel (κ.new n w.heap.size (zs ++ rest).length) (M.set n (some (.cells c true tip))) (w.alloc (.cells (zs ++ rest).toArray e)) ∧
      Fr κ M w (κ.new n w.heap.size (zs ++ rest).length) (M.set n (some (.cells c true tip))) (w.alloc (.cells (zs ++ rest).toArray e)) ∧ (κ.new n w.heap.size (zs ++ rest).length).loc n = some (some w.heap.size) := by
  have hst : κ.st w.heap.size = none := by
    cases hs : κ.st w.heap.size with
    | none => rfl
    | some cs =>
      obtain ⟨rest, e, fr, h1⟩ := h.stable _ _ hs
      exact absurd (Array.getElem?_eq_some_iff.1 h1).1 (Nat.lt_irrefl _)
  have hle : κ.le (κ.new n w.heap.size (zs ++ rest).length) := Kap.le_trans (h.more (.cells (zs ++ rest).toArray e) _).1 (Kap.at_le hn)
  obtain ⟨h1, h2, h3⟩ := h.new hn (r := .cells c true tip) (o := .cells (zs ++ rest).toArray e) (s := (zs ++ rest).length)
    (.inr ⟨w.heap.size, zs, rest, e, (0, 0), Kap.at_same, alloc_new, hc.mono hle, ht, fun _ => ⟨rfl, hst⟩, (fun h => by cases h), by simp [Kap.new, Kap.at, Kap.blk]⟩)
  exact ⟨h1, h2, h3, Kap.at_same⟩

theorem allocE_ok (hZ : ZerosOk P) {R : Type} {o : Oper} {t : TypeId} (ho : o.op = .alloc t) {E : Env} {st : AS} {k : Ent → Option R} {r : R} (h : allocE P t st k = some r) :
    ∃ e, k e = some r ∧ OpOk P o E st.next (find st.mem) e := by
  unfold allocE at h
  split at h
  · rename_i z hz
    split at h
    · rename_i c hc
      refine ⟨_, h, fun κ a w M K Q hA hR hrd hfr hK => ?_⟩
      obtain ⟨hone, hrel⟩ := zero_rel hZ hc hz
      obtain ⟨h1, h2, h3, h4⟩ := new_row hR (hfr st.next (Nat.le_refl _) (Nat.lt_succ_self _)) (e := t) (rest := []) (tip := false) (hrel κ) (fun _ => rfl)
      have hrun : (execOp a.eval o).run P w = .ok (.value (.pointer (some ⟨w.heap.size, 0, none⟩))) (w.alloc (.cells (z.cells.toList ++ []).toArray t)) := by
        simp only [execOp, ho]
        refine run_value ?_
        unfold Instr.alloc
        refine (run_q hz).trans ?_
        simp only [List.append_nil]
        rfl
      refine wp_value hrun (hK _ _ _ h1 (fun n hn => ?_) (.ptr _ 0 0 w.heap.size [] h4 rfl .nil) h2 h3)
      exact Kap.at_ne (name_ne hn)
    · cases h
  · cases h

theorem boxE_ok {R : Type} {o : Oper} {t : TypeId} {x : Operand} (ho : o.op = .box t x) {E : Env} {st : AS} {k : Ent → Option R} {r : R} (h : boxE x E st k = some r) :
    ∃ e, k e = some r ∧ OpOk P o E st.next (find st.mem) e := by
  unfold boxE at h
  split at h
  · rename_i v hx
    obtain ⟨hb, h⟩ := cond_some h
    simp only [Bool.and_eq_true] at hb
    refine ⟨_, h, fun κ a w M K Q hA hR hrd hfr hK => ?_⟩
    have hv := hA x (by rw [ho]; simp [Op.operands]) _ hx
    obtain ⟨h1, h2, h3, h4⟩ := new_row hR (hfr st.next (Nat.le_refl _) (Nat.lt_succ_self _)) (e := t) (rest := []) (tip := false) (cells_rel hv hb.1) (fun _ => rfl)
    have hrun : (execOp a.eval o).run P w = .ok (.value (.pointer (some ⟨w.heap.size, 0, none⟩))) (w.alloc (.cells ((a.eval x).cells.toList ++ []).toArray t)) := by
      simp only [execOp, ho]
      refine run_value ?_
      simp only [List.append_nil]
      rfl
    refine wp_value hrun (hK _ _ _ h1 (fun n hn => ?_) (.ptr _ 0 0 w.heap.size [] h4 rfl .nil) h2 h3)
    exact Kap.at_ne (name_ne hn)
  · cases h

/-! ### structs and arrays by their parts -/
def evParts (E : Env) : List (Nat × Operand) → Option (List (Nat × AV))
  | [] => some []
  | (i, x) :: r => match aeval E x with
    | some v => match evParts E r with
      | some vs => some ((i, v) :: vs)
      | none => none
    | none => none
def PRel (κ : Kap) : List (Nat × AV) → List (Nat × Value) → Prop
  | [], [] => True
  | (i, x) :: r, (j, y) :: s => i = j ∧ VRel κ x y ∧ PRel κ r s
  | _, _ => False
theorem evParts_ok {κ : Kap} {E : Env} {a : Act} : ∀ (ps : List (Nat × Operand)) (vs : List (Nat × AV)), (∀ p ∈ ps, ∀ v, aeval E p.2 = some v → VRel κ v (a.eval p.2)) → evParts E ps = some vs → PRel κ vs (ps.map fun p => (p.1, a.eval p.2))
  | [], vs, _, h => by simp only [evParts, Option.some.injEq] at h; subst h; exact trivial
  | (i, x) :: ps, vs, hx, h => by
    simp only [evParts] at h
    split at h
    · rename_i v hv
      split at h
      · rename_i us hus
        simp only [Option.some.injEq] at h; subst h
        exact ⟨rfl, hx _ (List.mem_cons_self ..) v hv, evParts_ok ps us (fun y hy => hx y (List.mem_cons_of_mem _ hy)) hus⟩
      · cases h
    · cases h
theorem PRel.mono {κ κ' : Kap} (h : κ.le κ') : ∀ {a : List (Nat × AV)} {b : List (Nat × Value)}, PRel κ a b → PRel κ' a b
  | [], [], _ => trivial
  | _ :: _, _ :: _, ⟨h1, h2, h3⟩ => ⟨h1, h2.mono h, PRel.mono h h3⟩
  | [], _ :: _, h3 => h3.elim
  | _ :: _, [], h3 => h3.elim
theorem foldSet (off : Nat) : ∀ (vs : List Value) (j : Nat) (cs : Array Value), off + j + vs.length ≤ cs.size → (vs.zipIdx j).foldl (fun cs (c, j) => cs.setIfInBounds (off + j) c) cs = (splice cs.toList (off + j) vs).toArray
  | [], j, cs, _ => by simp [splice]
  | v :: vs, j, cs, h => by
    simp only [List.length_cons] at h
    simp only [List.zipIdx_cons, List.foldl_cons]
    rw [foldSet off vs (j + 1) _ (by simp; omega)]
    congr 1
    have hlt : off + j < cs.toList.length := by simp; omega
    simp only [splice, List.length_cons, Array.toList_setIfInBounds]
    rw [show off + (j + 1) = off + j + 1 from by omega, List.take_set, List.drop_set_of_lt (by omega), List.take_add_one, List.getElem?_eq_getElem hlt]
    rw [show off + j + 1 + vs.length = off + j + (vs.length + 1) from by omega]
    simp only [Option.toList_some]
    rw [List.set_append_right _ _ (by simp; omega)]
    have hmin : off + j - min (off + j) cs.size = 0 := by simp at hlt; omega
    simp [hmin]
theorem fill_step {place : Nat → Option (Nat × Nat)} {i off s : Nat} {v : Value} {zs : List Value} {rest : List (Nat × Value)} (hp : place i = some (off, s)) (hs : v.cells.size = s) (hfit : off + s ≤ zs.length) :
    Instr.fill place zs.toArray ((i, v) :: rest) = Instr.fill place (splice zs off v.cells.toList).toArray rest := by
  simp only [Instr.fill, hp]
  rw [if_neg (by simp [hs]; omega)]
  congr 1
  have := foldSet off v.cells.toList 0 zs.toArray (by simp [hs]; omega)
  simp only [Nat.add_zero] at this
  rw [← this, ← Array.foldl_toList, Array.toList_zipIdx]
/-- Each part in its place. -/
def fillFs (places : List (Nat × Nat)) : List AV → List (Nat × AV) → Option (List AV)
  | c, [] => some c
  | c, (i, v) :: r => match places[i]? with
    | some (off, s) => bif celled v && (flatC (cells v) && Nat.beq (cw (cells v)) s) then
        match putFlat c off s (cells v) with
        | some c' => fillFs places c' r
        | none => none
      else none
    | none => none
theorem fillFs_ok {κ : Kap} {places : List (Nat × Nat)} : ∀ (ps : List (Nat × AV)) (qs : List (Nat × Value)) (c c' : List AV) (zs : List Value), fillFs places c ps = some c' → PRel κ ps qs → CRel κ c zs →
    ∃ zs', Instr.fill (places.toArray[·]?) zs.toArray qs = some zs'.toArray ∧ CRel κ c' zs'
  | [], [], c, c', zs, h, _, hc => by simp only [fillFs, Option.some.injEq] at h; subst h; exact ⟨zs, rfl, hc⟩
  | [], _ :: _, _, _, _, _, hr, _ => hr.elim
  | _ :: _, [], _, _, _, _, hr, _ => hr.elim
  | (i, v) :: ps, (j, u) :: qs, c, c', zs, h, ⟨hij, hv, hr⟩, hc => by
    subst hij
    simp only [fillFs] at h
    split at h
    · rename_i off s hp
      obtain ⟨hb, h⟩ := cond_some h
      simp only [Bool.and_eq_true] at hb
      have hs := Nat.eq_of_beq_eq_true hb.2.2
      split at h
      · rename_i c1 hc1
        have hcv := cells_rel hv hb.1
        have hput : putK (R := List AV) [] c off s (cells v) some = some c1 := by simp only [putK, hc1]
        obtain ⟨c2, h2, h3⟩ := putK_ok _ hput
        cases h2
        obtain ⟨q1, q2⟩ := h3 κ zs _ hc (by rw [if_pos rfl]; exact hcv) hs (flatC_one hb.2.1 hcv)
        simp only [plen, Nat.zero_add] at q1 q2
        have hl := hcv.length
        rw [hs] at hl
        obtain ⟨zs', g1, g2⟩ := fillFs_ok ps qs c1 c' _ h hr q1
        refine ⟨zs', ?_, g2⟩
        rw [fill_step (place := (places.toArray[·]?)) (by simpa using hp) (by simpa using hl) (by omega)]
        exact g1
      · cases h
    · cases h

section
variable {R : Type} (P)
def structE (t : TypeId) (parts : Array (Nat × Operand)) (E : Env) (k : Ent → Option R) : Option R :=
  match P.underlying t with
  | some (.struct fs) => match P.info? t with
    | some it => match it.zero with
      | some _ => match zeroT P t with
        | some c => match fs.toList.mapM (fun f => (P.info? f.type).map fun i => (f.offset, i.size)) with
          | some places => match evParts E parts.toList with
            | some ps => match fillFs places c ps with
              | some c' => k ⟨.agg c', [], 0, []⟩
              | none => none
            | none => none
          | none => none
        | none => none
      | none => none
    | none => none
  | _ => none
/-- The elements of a literal. -/
def fillEsK (m : List (Nat × Row)) (s n : Nat) : List (Nat × List AV) → List (Nat × AV) → List Nat → (List (Nat × List AV) → List Nat → Option R) → Option R
  | us, [], ns, k => k us ns
  | us, (i, v) :: r, ns, k => bif Nat.blt i n && (celled v && (flatC (cells v) && Nat.beq (cw (cells v)) s)) then
      shedK m (cells v) fun c ns' => fillEsK m s n ((i, c) :: us) r (ns' ++ ns) k
    else none
end
theorem zero_of_info {t : TypeId} {it : TypeInfo} {z : Value} (h1 : P.info? t = some it) (h2 : it.zero = some z) : qrun P (zeroValue t) = some z := by
  simp [zeroValue, typeInfo, program, bind, Sem.bind, qrun, h1, h2, pure]
theorem structE_ok (hZ : ZerosOk P) {R : Type} {o : Oper} {t : TypeId} {parts : Array (Nat × Operand)} (ho : o.op = .build t parts) {E : Env} {k : Ent → Option R} {r : R} (h : structE P t parts E k = some r) :
    ∃ v, k ⟨v, [], 0, []⟩ = some r ∧ ∀ m, StillOk P o E m v [] := by
  unfold structE at h
  split at h
  · rename_i fs hu
    split at h
    · rename_i it hit
      split at h
      · rename_i z hz
        split at h
        · rename_i c hc
          split at h
          · rename_i places hpl
            split at h
            · rename_i ps hps
              split at h
              · rename_i c' hc'
                refine ⟨_, h, fun m κ a w M hA hR _ => ?_⟩
                obtain ⟨hone, hrel⟩ := zero_rel hZ hc (zero_of_info hit hz)
                have hpr : PRel κ ps (parts.toList.map fun p => (p.1, a.eval p.2)) := evParts_ok _ _ (fun p hp v hv => hA p.2 (by rw [ho]; simp only [Op.operands]; exact List.mem_toArray.2 (List.mem_map.2 ⟨p, hp, rfl⟩)) v hv) hps
                obtain ⟨zs', g1, g2⟩ := fillFs_ok ps _ c c' _ hc' hpr (hrel κ)
                refine ⟨_, .agg _ _ g2 .nil, ?_⟩
                simp only [execOp, ho]
                refine run_value (run_build w t _ zs'.toArray ?_)
                unfold Program.built
                simp only [hit, hu, hz, hpl]
                have e1 : (parts.map fun x => match x with | (i, x) => (i, a.eval x)).toList = parts.toList.map fun p => (p.1, a.eval p.2) := by simp
                rw [e1]; simpa using g1
              · cases h
            · cases h
          · cases h
        · cases h
      · cases h
    · cases h
  · cases h

/-- An array whose elements are such. -/
theorem arr_set {κ : Kap} {w n : Nat} {f : Nat → List AV} {us : List (Nat × List AV)} {zs ys : List Value} {c : List AV} {i : Nat} (h : CRel κ [.arr w n f us] zs) (hi : i < n) (hc : CRel κ.nl c ys) (hw : cw c = w) (hone : ∀ y ∈ ys, oneV y = true) :
    CRel κ [.arr w n f ((i, c) :: us)] (splice zs (i * w) ys) ∧ i * w + w ≤ zs.length := by
  cases h with
  | arr _ _ _ _ zc b1 bo b2 b3 b4 b5 =>
    cases b5
    rw [List.append_nil] at b4
    subst b4
    have hl := hc.length
    rw [hw] at hl
    have hle : i * w + w ≤ n * w := by
      have := Nat.mul_le_mul_right w (Nat.succ_le_of_lt hi)
      rw [Nat.succ_mul] at this; exact this
    refine ⟨.arr w n f _ (splice zs (i * w) ys) (by rw [splice_length _ _ _ (by omega)]; exact b1) (splice_one bo hone) (fun j hj => ?_) (fun j hj => ?_) (by simp) .nil, by omega⟩
    · simp only [elt]
      by_cases hji : j = i
      · subst hji; rw [Nat.beq_refl, cond_true]; exact hw
      · rw [beq_false hji, cond_false]; exact b2 j hj
    · rw [splice_elem b1 hl hi]
      simp only [elt]
      by_cases hji : j = i
      · subst hji; rw [Nat.beq_refl, cond_true, if_pos rfl]; exact hc
      · rw [beq_false hji, cond_false, if_neg hji]; exact b3 j hj

theorem fillEsK_ok {R : Type} {m : List (Nat × Row)} {s n : Nat} {r : R} : ∀ (ps : List (Nat × AV)) (us : List (Nat × List AV)) (ns : List Nat) {k : List (Nat × List AV) → List Nat → Option R}, fillEsK m s n us ps ns k = some r →
    ∃ us' ns', k us' ns' = some r ∧ (∀ x ∈ ns, x ∈ ns') ∧ ∀ (κ : Kap) (w : World) (M : Mem), MRel κ M w → (∀ n ∈ ns', ∀ c o t, find m n = some (.cells c o t) → M n = some (.cells c false t)) →
      ∀ (qs : List (Nat × Value)) (f : Nat → List AV) (zs : List Value), PRel κ ps qs → CRel κ [.arr s n f us] zs →
        ∃ zs', Instr.fill (fun i => some (i * s, s)) zs.toArray qs = some zs'.toArray ∧ CRel κ [.arr s n f us'] zs'
  | [], us, ns, k, h => ⟨us, ns, h, fun _ h => h, fun κ w M hR hM qs f zs hp hc => by
      cases qs with
      | nil => exact ⟨zs, rfl, hc⟩
      | cons q qs => exact hp.elim⟩
  | (i, v) :: ps, us, ns, k, h => by
    simp only [fillEsK] at h
    obtain ⟨hb, h⟩ := cond_some h
    simp only [Bool.and_eq_true] at hb
    obtain ⟨hi, hcel, hflat, hs⟩ := hb
    have hi : i < n := by simpa [Nat.blt_eq] using hi
    have hs := Nat.eq_of_beq_eq_true hs
    obtain ⟨c, ns1, h1, h2, h3, h4⟩ := shedK_ok _ h
    obtain ⟨us', ns', g1, g2, g3⟩ := fillEsK_ok ps _ _ h1
    refine ⟨us', ns', g1, fun x hx => g2 x (List.mem_append_right _ hx), fun κ w M hR hM qs f zs hp hc => ?_⟩
    cases qs with
    | nil => exact hp.elim
    | cons q qs =>
      obtain ⟨j, u⟩ := q
      obtain ⟨hij, hv, hr⟩ := hp
      subst hij
      have hcv := cells_rel hv hcel
      have hone := flatC_one hflat hcv
      have hcn := h4 κ w M hR (fun n hn => hM n (g2 n (List.mem_append_left _ hn))) _ hcv
      obtain ⟨q1, q2⟩ := arr_set hc hi hcn (by rw [h2, hs]) hone
      obtain ⟨zs', e1, e2⟩ := g3 κ w M hR hM qs f _ hr q1
      refine ⟨zs', ?_, e2⟩
      have hl := hcv.length
      rw [hs] at hl
      rw [fill_step (place := fun i => some (i * s, s)) rfl (by simpa using hl) q2]
      exact e1

/-! ### zeros -/
theorem rep_get {α : Type} (c : List α) (hc : c.length ≠ 0) : ∀ (n k : Nat), ((List.replicate n c).flatten)[k]? = if k < n * c.length then c[k % c.length]? else none
  | 0, k => by simp
  | n + 1, k => by
    rw [List.replicate_succ, List.flatten_cons, List.getElem?_append]
    by_cases h : k < c.length
    · rw [if_pos h, if_pos (by rw [Nat.succ_mul]; omega), Nat.mod_eq_of_lt h]
    · rw [if_neg h, rep_get c hc n (k - c.length)]
      have e : (k - c.length) % c.length = k % c.length := by
        rw [← Nat.mod_eq_sub_mod (by omega)]
      rw [e]
      by_cases h2 : k - c.length < n * c.length
      · rw [if_pos h2, if_pos (by rw [Nat.succ_mul]; omega)]
      · rw [if_neg h2, if_neg (by rw [Nat.succ_mul]; omega)]
theorem zeros_list (z : Array Value) (n : Nat) (hz : z.size ≠ 0) : ((Array.range (n * z.size)).map (z[· % z.size]!)).toList = (List.replicate n z.toList).flatten := by
  apply List.ext_getElem?
  intro k
  rw [rep_get _ (by simpa using hz)]
  simp only [Array.toList_map, Array.toList_range, List.getElem?_map, Array.length_toList]
  by_cases h : k < n * z.size
  · rw [if_pos h]
    have hlt : k % z.size < z.size := Nat.mod_lt _ (Nat.pos_of_ne_zero hz)
    simp [h, hlt]
  · rw [if_neg h]; simp [h]
theorem zeros_rel (hZ : ZerosOk P) {e : TypeId} {c : List AV} {z : Value} (hc : zeroT P e = some c) (hz : qrun P (zeroValue e) = some z) {s : Nat} (hs : cw c = s) (hs0 : s ≠ 0) (n : Nat) (κ : Kap) :
    z.cells.size = s ∧ CRel κ [.arr s n (fun _ => c) []] ((Array.range (n * s)).map (z.cells[· % z.cells.size]!)).toList := by
  obtain ⟨hone, hrel⟩ := zero_rel hZ hc hz
  have hl := (hrel κ).length
  rw [hs] at hl
  have hsz : z.cells.size = s := by simpa using hl
  refine ⟨hsz, ?_⟩
  have := zeros_list z.cells n (by rw [hsz]; exact hs0)
  rw [hsz] at this ⊢
  rw [this]
  refine .arr s n _ [] _ (by rw [rep_len, hl]) (fun y hy => ?_) (fun i _ => hs) (fun i hi => ?_) (by simp) .nil
  · obtain ⟨l, hl2, hy⟩ := List.mem_flatten.1 hy
    rw [List.eq_of_mem_replicate hl2] at hy
    exact hone y hy
  · have := rep_elem z.cells.toList n i hi
    rw [hl] at this
    rw [this]; exact hrel κ.nl
theorem zeros_flat (hZ : ZerosOk P) {e : TypeId} {c : List AV} {z : Value} (hc : zeroT P e = some c) (hz : qrun P (zeroValue e) = some z) {s : Nat} (hs : cw c = s) (hs0 : s ≠ 0) (n : Nat) (κ : Kap) :
    z.cells.size = s ∧ CRel κ (List.replicate n c).flatten ((Array.range (n * s)).map (z.cells[· % z.cells.size]!)).toList := by
  obtain ⟨hone, hrel⟩ := zero_rel hZ hc hz
  have hl := (hrel κ).length
  rw [hs] at hl
  have hsz : z.cells.size = s := by simpa using hl
  refine ⟨hsz, ?_⟩
  have := zeros_list z.cells n (by rw [hsz]; exact hs0)
  rw [hsz] at this ⊢
  rw [this]
  exact rep_rel (hrel κ) n
theorem fold_size (off : Nat) : ∀ (l : List (Value × Nat)) (a : Array Value), a.size = (l.foldl (fun cs (c, j) => cs.setIfInBounds (off + j) c) a).size
  | [], a => rfl
  | p :: l, a => by
    simp only [List.foldl_cons]
    rw [← fold_size off l]; simp
theorem fill_size (place : Nat → Option (Nat × Nat)) : ∀ (qs : List (Nat × Value)) (a b : Array Value), Instr.fill place a qs = some b → a.size = b.size
  | [], a, b, h => by simp only [Instr.fill, Option.some.injEq] at h; rw [h]
  | (i, v) :: qs, a, b, h => by
    simp only [Instr.fill] at h
    split at h
    · cases h
    · split at h
      · cases h
      · have := fill_size place qs _ b h
        rw [← this, ← Array.foldl_toList]
        exact fold_size _ _ _
/-- Each element's cells in their place. -/
def fillFlat (s : Nat) : List AV → List (Nat × AV) → Option (List AV)
  | c, [] => some c
  | c, (i, v) :: r => bif celled v && (flatC (cells v) && Nat.beq (cw (cells v)) s) then
      match putFlat c (i * s) s (cells v) with
      | some c' => fillFlat s c' r
      | none => none
    else none
theorem fillFlat_ok {κ : Kap} {s : Nat} : ∀ (ps : List (Nat × AV)) (qs : List (Nat × Value)) (c c' : List AV) (zs : List Value), fillFlat s c ps = some c' → PRel κ ps qs → CRel κ c zs →
    ∃ zs', Instr.fill (fun i => some (i * s, s)) zs.toArray qs = some zs'.toArray ∧ CRel κ c' zs'
  | [], [], c, c', zs, h, _, hc => by simp only [fillFlat, Option.some.injEq] at h; subst h; exact ⟨zs, rfl, hc⟩
  | [], _ :: _, _, _, _, _, hr, _ => hr.elim
  | _ :: _, [], _, _, _, _, hr, _ => hr.elim
  | (i, v) :: ps, (j, u) :: qs, c, c', zs, h, ⟨hij, hv, hr⟩, hc => by
    subst hij
    simp only [fillFlat] at h
    obtain ⟨hb, h⟩ := cond_some h
    simp only [Bool.and_eq_true] at hb
    have hs := Nat.eq_of_beq_eq_true hb.2.2
    split at h
    · rename_i c1 hc1
      have hcv := cells_rel hv hb.1
      have hput : putK (R := List AV) [] c (i * s) s (cells v) some = some c1 := by simp only [putK, hc1]
      obtain ⟨c2, h2, h3⟩ := putK_ok _ hput
      cases h2
      obtain ⟨q1, q2⟩ := h3 κ zs _ hc (by rw [if_pos rfl]; exact hcv) hs (flatC_one hb.2.1 hcv)
      simp only [plen, Nat.zero_add] at q1 q2
      have hl := hcv.length
      rw [hs] at hl
      obtain ⟨zs', g1, g2⟩ := fillFlat_ok ps qs c1 c' _ h hr q1
      refine ⟨zs', ?_, g2⟩
      rw [fill_step (place := fun i => some (i * s, s)) rfl (by simpa using hl) (by omega)]
      exact g1
    · cases h
section
variable {R : Type} (P)
def buildSliceE (t : TypeId) (len : Nat) (parts : Array (Nat × Operand)) (E : Env) (st : AS) (k : Ent → Option R) : Option R :=
  match qrun P (underlying t) with
  | some (.slice e) => match qrun P (sizeOf e) with
    | some s => bif Nat.beq len 0 && parts.toList.isEmpty then k ⟨.slc st.next [] 0 0 s 0 0, [(st.next, some (.cells [.arr s 0 (fun _ => []) []] true false))], 1, []⟩ else match qrun P (zeroValue e) with
      | some _ => match zeroT P e with
        | some c => match evParts E parts.toList with
          | some ps => bif Nat.ble (len * s) (2 ^ 24) && (!(Nat.beq (len * s) 0) && Nat.beq (cw c) s) then bif rawIn c then (match fillFlat s (List.replicate len c).flatten ps with
                | some c' => k ⟨.slc st.next [] 0 0 s len len, [(st.next, some (.cells c' true false))], 1, []⟩
                | none => none)
              else fillEsK st.mem s len [] ps [] fun us ns => k ⟨.slc st.next [] 0 0 s len len, frz st.mem ns ++ [(st.next, some (.cells [.arr s len (fun _ => c) us] true false))], 1, ns⟩
            else none
          | none => none
        | none => none
      | none => none
    | none => none
  | _ => none
end
theorem buildSliceE_ok (hZ : ZerosOk P) {R : Type} {o : Oper} {t : TypeId} {len : Nat} {parts : Array (Nat × Operand)} (ho : o.op = .buildSlice t len parts) {E : Env} {st : AS} {k : Ent → Option R} {r : R} (h : buildSliceE P t len parts E st k = some r) :
    ∃ e, k e = some r ∧ OpOk P o E st.next (find st.mem) e := by
  unfold buildSliceE at h
  split at h
  · rename_i e hu
    split at h
    · rename_i s hs
      cases hb0 : (Nat.beq len 0 && parts.toList.isEmpty) with
      | true =>
        rw [hb0, cond_true] at h
        simp only [Bool.and_eq_true, List.isEmpty_iff] at hb0
        obtain ⟨q1, q2⟩ := hb0
        have q1 := Nat.eq_of_beq_eq_true q1
        refine ⟨_, h, fun κ a w M K Q hA hR hrd hfr hK => ?_⟩
        have hfr' : κ.loc st.next = none := hfr st.next (Nat.le_refl _) (Nat.lt_succ_self _)
        obtain ⟨k1, k2, k3, k4⟩ := new_row hR hfr' (e := e) (zs := []) (rest := []) (c := [.arr s 0 (fun _ => []) []]) (tip := false) (.arr s 0 _ _ [] (by simp) (fun z hz => by cases hz) (fun i hi => absurd hi (Nat.not_lt_zero _)) (fun i hi => absurd hi (Nat.not_lt_zero _)) rfl .nil) (fun _ => rfl)
        have hrun : (execOp a.eval o).run P w = .ok (.value (.slice (some ⟨w.heap.size, 0, none⟩) 0 0)) (w.alloc (.cells ([] ++ []).toArray e)) := by
          simp only [execOp, ho]
          refine run_value ?_
          unfold Instr.buildSlice
          refine (run_q hu).trans ?_
          refine (run_q hs).trans ?_
          have q3 : parts = #[] := by apply Array.ext'; simpa using q2
          subst q1; subst q3
          simp only [Nat.zero_mul, gt_iff_lt, Nat.not_lt_zero, if_false, if_true]
          refine (run_bind_ok (e := (pure #[] : Sem (Array Value))) (a := #[]) (w' := w) rfl).trans ?_
          have e0 : (Array.range 0).map (fun x => (#[] : Array Value)[x % (#[] : Array Value).size]!) = #[] := by apply Array.ext'; simp
          rw [e0, Array.map_empty]
          rfl
        refine wp_value hrun (hK _ _ _ k1 (fun n hn => Kap.at_ne (name_ne hn)) ?_ ?_ ?_)
        · exact .slc _ _ _ _ _ _ _ w.heap.size 0 _ k4 (.inl rfl) (Nat.le_refl _) (Nat.le_refl _) .nil
        · exact k2
        · exact k3
      | false =>
      rw [hb0, cond_false] at h
      split at h
      · rename_i z hz
        split at h
        · rename_i c hc
          split at h
          · rename_i ps hps
            obtain ⟨hb, h⟩ := cond_some h
            simp only [Bool.and_eq_true, Bool.not_eq_true'] at hb
            obtain ⟨hb1, hb2, hb3⟩ := hb
            have hb1 := Nat.le_of_ble_eq_true hb1
            have hb3 := Nat.eq_of_beq_eq_true hb3
            have hb2 : len * s ≠ 0 := fun e => by rw [e] at hb2; simp at hb2
            have hs0 : s ≠ 0 := fun e => hb2 (by rw [e, Nat.mul_zero])
            cases hraw : rawIn c with
            | true =>
              rw [hraw, cond_true] at h
              split at h
              · rename_i c' hfill
                refine ⟨_, h, fun κ a w M K Q hA hR hrd hfr hK => ?_⟩
                obtain ⟨hsz, hzr⟩ := zeros_flat hZ hc hz hb3 hs0 len κ
                have hpr : PRel κ ps (parts.toList.map fun p => (p.1, a.eval p.2)) := evParts_ok _ _ (fun p hp v hv => hA p.2 (by rw [ho]; simp only [Op.operands]; exact List.mem_toArray.2 (List.mem_map.2 ⟨p, hp, rfl⟩)) v hv) hps
                obtain ⟨zs', g1, g2⟩ := fillFlat_ok ps _ _ c' _ hfill hpr hzr
                have hfr' : κ.loc st.next = none := hfr st.next (Nat.le_refl _) (Nat.lt_succ_self _)
                obtain ⟨k1, k2, k3, k4⟩ := new_row hR hfr' (e := e) (rest := []) (tip := false) g2 (fun _ => rfl)
                have hrun : (execOp a.eval o).run P w = .ok (.value (.slice (some ⟨w.heap.size, 0, none⟩) len len)) (w.alloc (.cells (zs' ++ []).toArray e)) := by
                  simp only [execOp, ho]
                  refine run_value ?_
                  unfold Instr.buildSlice
                  refine (run_q hu).trans ?_
                  refine (run_q hs).trans ?_
                  simp only [gt_iff_lt, Nat.not_lt.2 hb1, if_false, hb2]
                  refine (run_q hz).trans ?_
                  refine (run_bind_ok (e := (pure z.cells : Sem (Array Value))) (a := z.cells) (w' := w) rfl).trans ?_
                  have e1 : (parts.map fun x => match x with | (i, x) => (i, a.eval x)).toList = parts.toList.map fun p => (p.1, a.eval p.2) := by simp
                  have e2 : ((Array.range (len * s)).map (z.cells[· % z.cells.size]!)).toList.toArray = (Array.range (len * s)).map (z.cells[· % z.cells.size]!) := Array.toArray_toList
                  rw [e2] at g1
                  rw [e1, g1]
                  simp only [List.append_nil]
                  rfl
                have hl := g2.length
                have hl0 := hzr.length
                have hlz : zs'.length = len * s := by
                  have h1 := fill_size (fun i => some (i * s, s)) _ _ _ g1
                  simp only [List.size_toArray] at h1
                  rw [← h1]; simp
                refine wp_value hrun (hK _ _ _ k1 (fun n hn => Kap.at_ne (name_ne hn)) ?_ k2 k3)
                exact .slc _ _ _ _ _ _ _ w.heap.size len _ k4 (.inr ⟨by simp [plen], (zs' ++ []).length, by simp [Kap.new, Kap.at, Kap.blk], by simp [plen]; omega⟩) (Nat.le_refl _) (Nat.le_refl _) .nil
              · cases h
            | false =>
            rw [hraw, cond_false] at h
            obtain ⟨us, ns, h1, _, h2⟩ := fillEsK_ok ps _ _ h
            refine ⟨_, h1, fun κ a w M K Q hA hR hrd hfr hK => ?_⟩
            obtain ⟨hsz, hzr⟩ := zeros_rel hZ hc hz hb3 hs0 len κ
            obtain ⟨κ', a1, a2, a3, a4, a5, a6⟩ := MRel.freezeAll (m := st.mem) ns hR fun n' hn' c0 o0 t0 h0 => .inl (by rw [hrd n' hn']; exact h0)
            have hpr : PRel κ ps (parts.toList.map fun p => (p.1, a.eval p.2)) := evParts_ok _ _ (fun p hp v hv => hA p.2 (by rw [ho]; simp only [Op.operands]; exact List.mem_toArray.2 (List.mem_map.2 ⟨p, hp, rfl⟩)) v hv) hps
            obtain ⟨zs', g1, g2⟩ := h2 κ' w _ a3 (fun n' hn' c0 o0 t0 h0 => a6 n' hn' c0 o0 t0 h0) _ _ _ (hpr.mono a1) (hzr.mono a1)
            have hfr' : κ'.loc st.next = none := by rw [a2]; exact hfr st.next (Nat.le_refl _) (Nat.lt_succ_self _)
            obtain ⟨k1, k2, k3, k4⟩ := new_row a3 hfr' (e := e) (rest := []) (tip := false) g2 (fun _ => rfl)
            have hrun : (execOp a.eval o).run P w = .ok (.value (.slice (some ⟨w.heap.size, 0, none⟩) len len)) (w.alloc (.cells (zs' ++ []).toArray e)) := by
              simp only [execOp, ho]
              refine run_value ?_
              unfold Instr.buildSlice
              refine (run_q hu).trans ?_
              refine (run_q hs).trans ?_
              simp only [gt_iff_lt, Nat.not_lt.2 hb1, if_false, hb2]
              refine (run_q hz).trans ?_
              refine (run_bind_ok (e := (pure z.cells : Sem (Array Value))) (a := z.cells) (w' := w) rfl).trans ?_
              have e1 : (parts.map fun x => match x with | (i, x) => (i, a.eval x)).toList = parts.toList.map fun p => (p.1, a.eval p.2) := by simp
              have e2 : ((Array.range (len * s)).map (z.cells[· % z.cells.size]!)).toList.toArray = (Array.range (len * s)).map (z.cells[· % z.cells.size]!) := Array.toArray_toList
              rw [e2] at g1
              rw [e1, g1]
              simp only [List.append_nil]
              rfl
            have hl := g2.length
            simp only [cw, width, Nat.add_zero] at hl
            refine wp_value hrun (hK _ _ _ (Kap.le_trans a1 k1) (fun n hn => ?_) ?_ ?_ ?_)
            · rw [← a2]
              exact Kap.at_ne (name_ne hn)
            · refine .slc _ _ _ _ _ _ _ w.heap.size len _ k4 (.inr ⟨by simp [plen], (zs' ++ []).length, by simp [Kap.new, Kap.at, Kap.blk], by simp [plen]; omega⟩) (Nat.le_refl _) (Nat.le_refl _) .nil
            · show MRel _ (M.sets (frz st.mem ns ++ [(st.next, _)])) _
              rw [Mem.sets_append]; exact k2
            · show Fr κ M w _ (M.sets (frz st.mem ns ++ [(st.next, _)])) _
              rw [Mem.sets_append]; exact a4.trans k3
          · cases h
        · cases h
      · cases h
    · cases h
  · cases h

section
variable {R : Type} (P)
/-- An array by its parts. -/
def buildArrE (t : TypeId) (parts : Array (Nat × Operand)) (E : Env) (m : List (Nat × Row)) (k : Ent → Option R) : Option R :=
  match P.underlying t with
  | some (.array _ e) => match P.info? t with
    | some it => match it.zero with
      | some _ => match zeroT P t with
        | some [.arr s n f us] => match P.info? e with
          | some ie => bif Nat.beq ie.size s then match evParts E parts.toList with
            | some ps => fillEsK m s n us ps [] fun us' ns => match ns with
              | [] => k ⟨.agg [.arr s n f us'], [], 0, []⟩
              | _ => none
            | none => none
            else none
          | none => none
        | _ => none
      | none => none
    | none => none
  | _ => none
end
theorem buildArrE_ok (hZ : ZerosOk P) {R : Type} {o : Oper} {t : TypeId} {parts : Array (Nat × Operand)} (ho : o.op = .build t parts) {E : Env} {m : List (Nat × Row)} {k : Ent → Option R} {r : R} (h : buildArrE P t parts E m k = some r) :
    ∃ v, k ⟨v, [], 0, []⟩ = some r ∧ ∀ m, StillOk P o E m v [] := by
  unfold buildArrE at h
  split at h
  · rename_i n0 e hu
    split at h
    · rename_i it hit
      split at h
      · rename_i z hz
        split at h
        · rename_i s n f us hc
          split at h
          · rename_i ie hie
            obtain ⟨hsz, h1⟩ := cond_some h
            have hsz' := Nat.eq_of_beq_eq_true hsz
            split at h1
            · rename_i ps hps
              obtain ⟨us', ns', h2, _, hfill⟩ := fillEsK_ok _ _ _ h1
              split at h2
              · refine ⟨_, h2, fun m' κ a w M hA hR _ => ?_⟩
                obtain ⟨hone, hrel⟩ := zero_rel hZ hc (zero_of_info hit hz)
                have hpr : PRel κ ps (parts.toList.map fun p => (p.1, a.eval p.2)) := evParts_ok _ _ (fun p hp v hv => hA p.2 (by rw [ho]; simp only [Op.operands]; exact List.mem_toArray.2 (List.mem_map.2 ⟨p, hp, rfl⟩)) v hv) hps
                obtain ⟨zs', g1, g2⟩ := hfill κ w M hR (fun n hn => by cases hn) _ f _ hpr (hrel κ)
                refine ⟨_, .agg _ _ g2 .nil, ?_⟩
                simp only [execOp, ho]
                refine run_value (run_build w t _ zs'.toArray ?_)
                unfold Program.built
                simp only [hit, hu, hz, hie, hsz']
                have e1 : (parts.map fun x => match x with | (i, x) => (i, a.eval x)).toList = parts.toList.map fun p => (p.1, a.eval p.2) := by simp
                rw [e1]; simpa using g1
              · cases h2
            · cases h1
          · cases h
        · cases h
      · cases h
    · cases h
  · cases h
end
end Go.Sv
