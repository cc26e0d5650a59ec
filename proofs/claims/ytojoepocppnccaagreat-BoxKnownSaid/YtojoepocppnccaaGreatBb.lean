/- The evaluator and the contracts that the walk leans on, part Bb: Sv7, Sv8, Sv9, SvA, SvB, SvB2, SvC, SvD. -/
import Derived.Test.YtojoepocppnccaaGreatBa
import Derived.Laws.Tables
import Derived.Laws.Strings
import Derived.Laws.StructEq
import Derived.Lib.SliceRun
import Derived.WalkSpells
import Derived.Deep.AppendSrc
import Derived.Deep.Upon
namespace Go.Sv
noncomputable section
open Go.RowKit
variable {P : Program}

/-! ### zero values, by the types' shapes -/
def zeroFs (rec : TypeId → Option (List AV)) : List Field → Option (List AV)
  | [] => some []
  | f :: fs => match rec f.type with
    | some c => match zeroFs rec fs with
      | some cs => some (c ++ cs)
      | none => none
    | none => none
/-- Cells that may come to bear names: pointers, slices, maps, functions, interfaces. -/
def rawIn (c : List AV) : Bool := c.any fun x => match x with
  | .raw _ => true
  | _ => false
def zeroC (P : Program) : Nat → TypeId → Option (List AV)
  | 0, _ => none
  | d + 1, t => match qrun P (underlying t) with
    | some .bool => some [.bool false]
    | some (.int k) => some [.int k 0]
    | some .string => some [.str []]
    | some (.pointer _) => some [.raw (.pointer none)]
    | some (.slice _) => some [.raw (.slice none 0 0)]
    | some (.map _ _) => some [.raw (.map none)]
    | some (.func _ _ _) => some [.raw .nilFunc]
    | some (.interface _) => some [.raw .nilIface]
    | some (.struct fs) => zeroFs (zeroC P d) fs.toList
    | some (.array n e) => match zeroC P d e with
      | some c => bif rawIn c then some (List.replicate n c).flatten else match qrun P (sizeOf e) with
        | some s => bif Nat.beq (cw c) s then some [.arr s n (fun _ => c) []] else none
        | none => none
      | none => none
    | _ => none
def zeroVs (rec : TypeId → Option (List Value)) : List Field → Option (List Value)
  | [] => some []
  | f :: fs => match rec f.type with
    | some c => match zeroVs rec fs with
      | some cs => some (c ++ cs)
      | none => none
    | none => none
def zeroV (P : Program) : Nat → TypeId → Option (List Value)
  | 0, _ => none
  | d + 1, t => match qrun P (underlying t) with
    | some .bool => some [.bool false]
    | some (.int k) => some [.int k 0]
    | some .string => some [.string ⟨#[]⟩]
    | some (.pointer _) => some [.pointer none]
    | some (.slice _) => some [.slice none 0 0]
    | some (.map _ _) => some [.map none]
    | some (.func _ _ _) => some [.nilFunc]
    | some (.interface _) => some [.nilIface]
    | some (.struct fs) => zeroVs (zeroV P d) fs.toList
    | some (.array n e) => match zeroV P d e with
      | some c => some (List.replicate n c).flatten
      | none => none
    | _ => none
theorem rep_len {α : Type} (c : List α) : ∀ n, ((List.replicate n c).flatten).length = n * c.length
  | 0 => by simp
  | n + 1 => by rw [List.replicate_succ, List.flatten_cons, List.length_append, rep_len c n, Nat.succ_mul, Nat.add_comm]
theorem rep_elem {α : Type} (c : List α) : ∀ (n i : Nat), i < n → (((List.replicate n c).flatten).drop (i * c.length)).take c.length = c
  | 0, i, h => by omega
  | n + 1, 0, _ => by simp [List.replicate_succ]
  | n + 1, i + 1, h => by
    rw [List.replicate_succ, List.flatten_cons, Nat.succ_mul, Nat.add_comm, ← List.drop_drop, List.drop_left']
    · exact rep_elem c n i (by omega)
    · rfl
theorem rep_rel {κ : Kap} {c : List AV} {zs : List Value} (h : CRel κ c zs) : ∀ n, CRel κ (List.replicate n c).flatten (List.replicate n zs).flatten
  | 0 => .nil
  | n + 1 => by
    rw [List.replicate_succ, List.replicate_succ, List.flatten_cons, List.flatten_cons]
    exact h.append (rep_rel h n)
theorem zeroC_ok : ∀ (d : Nat) (t : TypeId) (c : List AV), zeroC P d t = some c → ∃ zs, zeroV P d t = some zs ∧ (∀ z ∈ zs, oneV z = true) ∧ ∀ κ, CRel κ c zs
  | 0, t, c, h => by simp [zeroC] at h
  | d + 1, t, c, h => by
    simp only [zeroC] at h
    simp only [zeroV]
    split at h
    · rename_i hu; simp only [Option.some.injEq] at h; subst h; exact ⟨_, rfl, by simp [oneV], fun κ => .bool _ .nil⟩
    · rename_i k hu; simp only [Option.some.injEq] at h; subst h; exact ⟨_, rfl, by simp [oneV], fun κ => .int _ _ .nil⟩
    · rename_i hu; simp only [Option.some.injEq] at h; subst h; exact ⟨_, rfl, by simp [oneV], fun κ => .str [] .nil⟩
    · rename_i e hu; simp only [Option.some.injEq] at h; subst h; exact ⟨_, rfl, by simp [oneV], fun κ => .raw _ .nil⟩
    · rename_i e hu; simp only [Option.some.injEq] at h; subst h; exact ⟨_, rfl, by simp [oneV], fun κ => .raw _ .nil⟩
    · rename_i e1 e2 hu; simp only [Option.some.injEq] at h; subst h; exact ⟨_, rfl, by simp [oneV], fun κ => .raw _ .nil⟩
    · rename_i e1 e2 e3 hu; simp only [Option.some.injEq] at h; subst h; exact ⟨_, rfl, by simp [oneV], fun κ => .raw _ .nil⟩
    · rename_i e hu; simp only [Option.some.injEq] at h; subst h; exact ⟨_, rfl, by simp [oneV], fun κ => .raw _ .nil⟩
    · rename_i fs hu
      have key : ∀ (fs : List Field) (c : List AV), zeroFs (zeroC P d) fs = some c → ∃ zs, zeroVs (zeroV P d) fs = some zs ∧ (∀ z ∈ zs, oneV z = true) ∧ ∀ κ, CRel κ c zs := by
        intro fs
        induction fs with
        | nil => intro c h; simp only [zeroFs, Option.some.injEq] at h; subst h; exact ⟨[], rfl, by simp, fun κ => .nil⟩
        | cons f fs ih =>
          intro c h
          simp only [zeroFs] at h
          split at h
          · rename_i c1 h1
            split at h
            · rename_i c2 h2
              simp only [Option.some.injEq] at h; subst h
              obtain ⟨z1, a1, a2, a3⟩ := zeroC_ok d _ _ h1
              obtain ⟨z2, b1, b2, b3⟩ := ih _ h2
              refine ⟨z1 ++ z2, by simp only [zeroVs, a1, b1], fun z hz => ?_, fun κ => (a3 κ).append (b3 κ)⟩
              rcases List.mem_append.1 hz with h | h
              · exact a2 z h
              · exact b2 z h
            · cases h
          · cases h
      exact key _ _ h
    · rename_i n e hu
      split at h
      · rename_i c1 h1
        cases hraw : rawIn c1 with
        | true =>
          rw [hraw] at h
          simp only [cond_true, Option.some.injEq] at h; subst h
          obtain ⟨z1, a1, a2, a3⟩ := zeroC_ok d _ _ h1
          refine ⟨(List.replicate n z1).flatten, by simp only [a1], fun z hz => ?_, fun κ => rep_rel (a3 κ) n⟩
          obtain ⟨l, hl, hz⟩ := List.mem_flatten.1 hz
          rw [List.eq_of_mem_replicate hl] at hz
          exact a2 z hz
        | false =>
        rw [hraw, cond_false] at h
        split at h
        · rename_i s hs
          obtain ⟨hb, h⟩ := cond_some h
          have hb := Nat.eq_of_beq_eq_true hb
          simp only [Option.some.injEq] at h; subst h
          obtain ⟨z1, a1, a2, a3⟩ := zeroC_ok d _ _ h1
          have hl : z1.length = s := by rw [(a3 ⟨fun _ => none, fun _ => none, fun _ => undef, fun _ => none⟩).length, hb]
          refine ⟨(List.replicate n z1).flatten, by simp only [a1], fun z hz => ?_, fun κ => ?_⟩
          · obtain ⟨l, hl, hz⟩ := List.mem_flatten.1 hz
            rw [List.eq_of_mem_replicate hl] at hz
            exact a2 z hz
          · refine .arr s n _ [] (List.replicate n z1).flatten (by rw [rep_len, hl]) (fun z hz => ?_) (fun i _ => hb) (fun i hi => ?_) (by simp) .nil
            · obtain ⟨l, hl, hz⟩ := List.mem_flatten.1 hz
              rw [List.eq_of_mem_replicate hl] at hz
              exact a2 z hz
            · have := rep_elem z1 n i hi
              rw [hl] at this
              rw [this]; exact a3 κ.nl
        · cases h
      · cases h
    · cases h
/-- The program's own zero values are those. -/
def ZerosOk (P : Program) : Prop := ∀ t zs z, t < P.types.size → zeroV P 8 t = some zs → qrun P (zeroValue t) = some z → z.cells.toList = zs

/-- The zero value of a type of the program's table. -/
def zeroT (P : Program) (t : TypeId) : Option (List AV) := bif Nat.blt t P.types.size then zeroC P 8 t else none
theorem zero_rel (hZ : ZerosOk P) {t : TypeId} {c : List AV} (hc : zeroT P t = some c) {z : Value} (hz : qrun P (zeroValue t) = some z) : (∀ v ∈ z.cells.toList, oneV v = true) ∧ ∀ κ, CRel κ c z.cells.toList := by
  obtain ⟨hlt, hc⟩ := cond_some hc
  obtain ⟨zs, h1, h2, h3⟩ := zeroC_ok 8 t c hc
  rw [hZ t zs z (by simpa [Nat.blt_eq] using hlt) h1 hz]
  exact ⟨h2, h3⟩

section
variable {R : Type} (P)
def allocE (t : TypeId) (st : AS) (k : Ent → Option R) : Option R :=
  match qrun P (zeroValue t) with
  | some _ => match zeroT P t with
    | some c => k ⟨.ptr st.next [] 0, [(st.next, some (.cells c true false))], 1, []⟩
    | none => none
  | none => none
def boxE (x : Operand) (E : Env) (st : AS) (k : Ent → Option R) : Option R :=
  match aeval E x with
  | some v => bif celled v && flatC (cells v) then k ⟨.ptr st.next [] 0, [(st.next, some (.cells (cells v) true false))], 1, []⟩ else none
  | none => none
end

theorem name_ne {n x : Nat} (h : n < x ∨ x + 1 ≤ n) : n ≠ x := by omega
/-- A new block for a row. -/
theorem new_row {κ : Kap} {M : Mem} {w : World} (h : MRel κ M w) {n : Nat} (hn : κ.loc n = none) {c : List AV} {zs rest : List Value} {e : TypeId} (hc : CRel κ c zs) {tip : Bool} (ht : tip = false → rest = []) :
    κ.le (κ.new n w.heap.size (zs ++ rest).length) ∧ MRel (κ.new n w.heap.size (zs ++ rest).length) (M.set n (some (.cells c true tip))) (w.alloc (.cells (zs ++ rest).toArray e)) ∧
      Fr κ M w (κ.new n w.heap.size (zs ++ rest).length) (M.set n (some (.cells c true tip))) (w.alloc (.cells (zs ++ rest).toArray e)) ∧ (κ.new n w.heap.size (zs ++ rest).length).loc n = some (some w.heap.size) := by
  have hst : κ.st w.heap.size = none := by
    cases hs : κ.st w.heap.size with
    | none => rfl
    | some cs =>
      obtain ⟨rest, e, fr, h1⟩ := h.stable _ _ hs
      exact absurd (Array.getElem?_eq_some_iff.1 h1).1 (Nat.lt_irrefl _)
  have hle : κ.le (κ.new n w.heap.size (zs ++ rest).length) := Kap.le_trans (h.more (.cells (zs ++ rest).toArray e) _).1 (Kap.at_le hn)
  obtain ⟨h1, h2, h3⟩ := h.new hn (r := .cells c true tip) (o := .cells (zs ++ rest).toArray e) (s := (zs ++ rest).length)
    (.inr ⟨w.heap.size, zs, rest, e, (0, 0), Kap.at_same, alloc_new, hc.mono hle, ht, fun _ => ⟨.inl rfl, hst⟩, (fun h => by cases h), by simp [Kap.new, Kap.at, Kap.blk]⟩)
  exact ⟨h1, h2, h3, Kap.at_same⟩

theorem allocE_ok (hZ : ZerosOk P) {R : Type} {o : Oper} {t : TypeId} (ho : o.op = .alloc t) {E : Env} {st : AS} {k : Ent → Option R} {r : R} (h : allocE P t st k = some r) :
    ∃ e, k e = some r ∧ OpOk P o E st.next (find st.mem) e := by
  unfold allocE at h
  split at h
  · rename_i z hz
    split at h
    · rename_i c hc
      refine ⟨_, h, fun κ a w M K Q hA hR hrd hfr hK => ?_⟩
      obtain ⟨hone, hrel⟩ := zero_rel hZ hc hz
      obtain ⟨h1, h2, h3, h4⟩ := new_row hR (hfr st.next (Nat.le_refl _) (Nat.lt_succ_self _)) (e := t) (rest := []) (tip := false) (hrel κ) (fun _ => rfl)
      have hrun : (execOp a.eval o).run P w = .ok (.value (.pointer (some ⟨w.heap.size, 0, none⟩))) (w.alloc (.cells (z.cells.toList ++ []).toArray t)) := by
        simp only [execOp, ho]
        refine run_value ?_
        unfold Instr.alloc
        refine (run_q hz).trans ?_
        simp only [List.append_nil]
        rfl
      refine wp_value hrun (hK _ _ _ h1 (fun n hn => ?_) (.ptr _ 0 0 w.heap.size [] h4 rfl .nil) h2 h3)
      exact Kap.at_ne (name_ne hn)
    · cases h
  · cases h

theorem boxE_ok {R : Type} {o : Oper} {t : TypeId} {x : Operand} (ho : o.op = .box t x) {E : Env} {st : AS} {k : Ent → Option R} {r : R} (h : boxE x E st k = some r) :
    ∃ e, k e = some r ∧ OpOk P o E st.next (find st.mem) e := by
  unfold boxE at h
  split at h
  · rename_i v hx
    obtain ⟨hb, h⟩ := cond_some h
    simp only [Bool.and_eq_true] at hb
    refine ⟨_, h, fun κ a w M K Q hA hR hrd hfr hK => ?_⟩
    have hv := hA x (by rw [ho]; simp [Op.operands]) _ hx
    obtain ⟨h1, h2, h3, h4⟩ := new_row hR (hfr st.next (Nat.le_refl _) (Nat.lt_succ_self _)) (e := t) (rest := []) (tip := false) (cells_rel hv hb.1) (fun _ => rfl)
    have hrun : (execOp a.eval o).run P w = .ok (.value (.pointer (some ⟨w.heap.size, 0, none⟩))) (w.alloc (.cells ((a.eval x).cells.toList ++ []).toArray t)) := by
      simp only [execOp, ho]
      refine run_value ?_
      simp only [List.append_nil]
      rfl
    refine wp_value hrun (hK _ _ _ h1 (fun n hn => ?_) (.ptr _ 0 0 w.heap.size [] h4 rfl .nil) h2 h3)
    exact Kap.at_ne (name_ne hn)
  · cases h

/-! ### structs and arrays by their parts -/
def evParts (E : Env) : List (Nat × Operand) → Option (List (Nat × AV))
  | [] => some []
  | (i, x) :: r => match aeval E x with
    | some v => match evParts E r with
      | some vs => some ((i, v) :: vs)
      | none => none
    | none => none
def PRel (κ : Kap) : List (Nat × AV) → List (Nat × Value) → Prop
  | [], [] => True
  | (i, x) :: r, (j, y) :: s => i = j ∧ VRel κ x y ∧ PRel κ r s
  | _, _ => False
theorem evParts_ok {κ : Kap} {E : Env} {a : Act} : ∀ (ps : List (Nat × Operand)) (vs : List (Nat × AV)), (∀ p ∈ ps, ∀ v, aeval E p.2 = some v → VRel κ v (a.eval p.2)) → evParts E ps = some vs → PRel κ vs (ps.map fun p => (p.1, a.eval p.2))
  | [], vs, _, h => by simp only [evParts, Option.some.injEq] at h; subst h; exact trivial
  | (i, x) :: ps, vs, hx, h => by
    simp only [evParts] at h
    split at h
    · rename_i v hv
      split at h
      · rename_i us hus
        simp only [Option.some.injEq] at h; subst h
        exact ⟨rfl, hx _ (List.mem_cons_self ..) v hv, evParts_ok ps us (fun y hy => hx y (List.mem_cons_of_mem _ hy)) hus⟩
      · cases h
    · cases h
theorem PRel.mono {κ κ' : Kap} (h : κ.le κ') : ∀ {a : List (Nat × AV)} {b : List (Nat × Value)}, PRel κ a b → PRel κ' a b
  | [], [], _ => trivial
  | _ :: _, _ :: _, ⟨h1, h2, h3⟩ => ⟨h1, h2.mono h, PRel.mono h h3⟩
  | [], _ :: _, h3 => h3.elim
  | _ :: _, [], h3 => h3.elim
theorem foldSet (off : Nat) : ∀ (vs : List Value) (j : Nat) (cs : Array Value), off + j + vs.length ≤ cs.size → (vs.zipIdx j).foldl (fun cs (c, j) => cs.setIfInBounds (off + j) c) cs = (splice cs.toList (off + j) vs).toArray
  | [], j, cs, _ => by simp [splice]
  | v :: vs, j, cs, h => by
    simp only [List.length_cons] at h
    simp only [List.zipIdx_cons, List.foldl_cons]
    rw [foldSet off vs (j + 1) _ (by simp; omega)]
    congr 1
    have hlt : off + j < cs.toList.length := by simp; omega
    simp only [splice, List.length_cons, Array.toList_setIfInBounds]
    rw [show off + (j + 1) = off + j + 1 from by omega, List.take_set, List.drop_set_of_lt (by omega), List.take_add_one, List.getElem?_eq_getElem hlt]
    rw [show off + j + 1 + vs.length = off + j + (vs.length + 1) from by omega]
    simp only [Option.toList_some]
    rw [List.set_append_right _ _ (by simp; omega)]
    have hmin : off + j - min (off + j) cs.size = 0 := by simp at hlt; omega
    simp [hmin]
theorem fill_step {place : Nat → Option (Nat × Nat)} {i off s : Nat} {v : Value} {zs : List Value} {rest : List (Nat × Value)} (hp : place i = some (off, s)) (hs : v.cells.size = s) (hfit : off + s ≤ zs.length) :
    Instr.fill place zs.toArray ((i, v) :: rest) = Instr.fill place (splice zs off v.cells.toList).toArray rest := by
  simp only [Instr.fill, hp]
  rw [if_neg (by simp [hs]; omega)]
  congr 1
  have := foldSet off v.cells.toList 0 zs.toArray (by simp [hs]; omega)
  simp only [Nat.add_zero] at this
  rw [← this, ← Array.foldl_toList, Array.toList_zipIdx]
/-- Each part in its place. -/
def fillFs (places : List (Nat × Nat)) : List AV → List (Nat × AV) → Option (List AV)
  | c, [] => some c
  | c, (i, v) :: r => match places[i]? with
    | some (off, s) => bif celled v && (flatC (cells v) && Nat.beq (cw (cells v)) s) then
        match putFlat c off s (cells v) with
        | some c' => fillFs places c' r
        | none => none
      else none
    | none => none
theorem fillFs_ok {κ : Kap} {places : List (Nat × Nat)} : ∀ (ps : List (Nat × AV)) (qs : List (Nat × Value)) (c c' : List AV) (zs : List Value), fillFs places c ps = some c' → PRel κ ps qs → CRel κ c zs →
    ∃ zs', Instr.fill (places.toArray[·]?) zs.toArray qs = some zs'.toArray ∧ CRel κ c' zs'
  | [], [], c, c', zs, h, _, hc => by simp only [fillFs, Option.some.injEq] at h; subst h; exact ⟨zs, rfl, hc⟩
  | [], _ :: _, _, _, _, _, hr, _ => hr.elim
  | _ :: _, [], _, _, _, _, hr, _ => hr.elim
  | (i, v) :: ps, (j, u) :: qs, c, c', zs, h, ⟨hij, hv, hr⟩, hc => by
    subst hij
    simp only [fillFs] at h
    split at h
    · rename_i off s hp
      obtain ⟨hb, h⟩ := cond_some h
      simp only [Bool.and_eq_true] at hb
      have hs := Nat.eq_of_beq_eq_true hb.2.2
      split at h
      · rename_i c1 hc1
        have hcv := cells_rel hv hb.1
        have hput : putK (R := List AV) [] c off s (cells v) some = some c1 := by simp only [putK, hc1]
        obtain ⟨c2, h2, h3⟩ := putK_ok _ hput
        cases h2
        obtain ⟨q1, q2⟩ := h3 κ zs _ hc (by rw [if_pos rfl]; exact hcv) hs (flatC_one hb.2.1 hcv)
        simp only [plen, Nat.zero_add] at q1 q2
        have hl := hcv.length
        rw [hs] at hl
        obtain ⟨zs', g1, g2⟩ := fillFs_ok ps qs c1 c' _ h hr q1
        refine ⟨zs', ?_, g2⟩
        rw [fill_step (place := (places.toArray[·]?)) (by simpa using hp) (by simpa using hl) (by omega)]
        exact g1
      · cases h
    · cases h

section
variable {R : Type} (P)
def structE (t : TypeId) (parts : Array (Nat × Operand)) (E : Env) (k : Ent → Option R) : Option R :=
  match P.underlying t with
  | some (.struct fs) => match P.info? t with
    | some it => match it.zero with
      | some _ => match zeroT P t with
        | some c => match fs.toList.mapM (fun f => (P.info? f.type).map fun i => (f.offset, i.size)) with
          | some places => match evParts E parts.toList with
            | some ps => match fillFs places c ps with
              | some c' => k ⟨.agg c', [], 0, []⟩
              | none => none
            | none => none
          | none => none
        | none => none
      | none => none
    | none => none
  | _ => none
/-- The elements of a literal. -/
def fillEsK (m : List (Nat × Row)) (s n : Nat) : List (Nat × List AV) → List (Nat × AV) → List Nat → (List (Nat × List AV) → List Nat → Option R) → Option R
  | us, [], ns, k => k us ns
  | us, (i, v) :: r, ns, k => bif Nat.blt i n && (celled v && (flatC (cells v) && Nat.beq (cw (cells v)) s)) then
      shedK m (cells v) fun c ns' => fillEsK m s n ((i, c) :: us) r (ns' ++ ns) k
    else none
end
theorem zero_of_info {t : TypeId} {it : TypeInfo} {z : Value} (h1 : P.info? t = some it) (h2 : it.zero = some z) : qrun P (zeroValue t) = some z := by
  simp [zeroValue, typeInfo, program, bind, Sem.bind, qrun, h1, h2, pure]
theorem structE_ok (hZ : ZerosOk P) {R : Type} {o : Oper} {t : TypeId} {parts : Array (Nat × Operand)} (ho : o.op = .build t parts) {E : Env} {k : Ent → Option R} {r : R} (h : structE P t parts E k = some r) :
    ∃ v, k ⟨v, [], 0, []⟩ = some r ∧ ∀ m, StillOk P o E m v [] := by
  unfold structE at h
  split at h
  · rename_i fs hu
    split at h
    · rename_i it hit
      split at h
      · rename_i z hz
        split at h
        · rename_i c hc
          split at h
          · rename_i places hpl
            split at h
            · rename_i ps hps
              split at h
              · rename_i c' hc'
                refine ⟨_, h, fun m κ a w M hA hR _ => ?_⟩
                obtain ⟨hone, hrel⟩ := zero_rel hZ hc (zero_of_info hit hz)
                have hpr : PRel κ ps (parts.toList.map fun p => (p.1, a.eval p.2)) := evParts_ok _ _ (fun p hp v hv => hA p.2 (by rw [ho]; simp only [Op.operands]; exact List.mem_toArray.2 (List.mem_map.2 ⟨p, hp, rfl⟩)) v hv) hps
                obtain ⟨zs', g1, g2⟩ := fillFs_ok ps _ c c' _ hc' hpr (hrel κ)
                refine ⟨_, .agg _ _ g2 .nil, ?_⟩
                simp only [execOp, ho]
                refine run_value (run_build w t _ zs'.toArray ?_)
                unfold Program.built
                simp only [hit, hu, hz, hpl]
                have e1 : (parts.map fun x => match x with | (i, x) => (i, a.eval x)).toList = parts.toList.map fun p => (p.1, a.eval p.2) := by simp
                rw [e1]; simpa using g1
              · cases h
            · cases h
          · cases h
        · cases h
      · cases h
    · cases h
  · cases h

/-- An array whose elements are such. -/
theorem arr_set {κ : Kap} {w n : Nat} {f : Nat → List AV} {us : List (Nat × List AV)} {zs ys : List Value} {c : List AV} {i : Nat} (h : CRel κ [.arr w n f us] zs) (hi : i < n) (hc : CRel κ.nl c ys) (hw : cw c = w) (hone : ∀ y ∈ ys, oneV y = true) :
    CRel κ [.arr w n f ((i, c) :: us)] (splice zs (i * w) ys) ∧ i * w + w ≤ zs.length := by
  cases h with
  | arr _ _ _ _ zc b1 bo b2 b3 b4 b5 =>
    cases b5
    rw [List.append_nil] at b4
    subst b4
    have hl := hc.length
    rw [hw] at hl
    have hle : i * w + w ≤ n * w := by
      have := Nat.mul_le_mul_right w (Nat.succ_le_of_lt hi)
      rw [Nat.succ_mul] at this; exact this
    refine ⟨.arr w n f _ (splice zs (i * w) ys) (by rw [splice_length _ _ _ (by omega)]; exact b1) (splice_one bo hone) (fun j hj => ?_) (fun j hj => ?_) (by simp) .nil, by omega⟩
    · simp only [elt]
      by_cases hji : j = i
      · subst hji; rw [Nat.beq_refl, cond_true]; exact hw
      · rw [beq_false hji, cond_false]; exact b2 j hj
    · rw [splice_elem b1 hl hi]
      simp only [elt]
      by_cases hji : j = i
      · subst hji; rw [Nat.beq_refl, cond_true, if_pos rfl]; exact hc
      · rw [beq_false hji, cond_false, if_neg hji]; exact b3 j hj

theorem fillEsK_ok {R : Type} {m : List (Nat × Row)} {s n : Nat} {r : R} : ∀ (ps : List (Nat × AV)) (us : List (Nat × List AV)) (ns : List Nat) {k : List (Nat × List AV) → List Nat → Option R}, fillEsK m s n us ps ns k = some r →
    ∃ us' ns', k us' ns' = some r ∧ (∀ x ∈ ns, x ∈ ns') ∧ ∀ (κ : Kap) (w : World) (M : Mem), MRel κ M w → (∀ n ∈ ns', ∀ c o t, find m n = some (.cells c o t) → M n = some (.cells c false t)) →
      ∀ (qs : List (Nat × Value)) (f : Nat → List AV) (zs : List Value), PRel κ ps qs → CRel κ [.arr s n f us] zs →
        ∃ zs', Instr.fill (fun i => some (i * s, s)) zs.toArray qs = some zs'.toArray ∧ CRel κ [.arr s n f us'] zs'
  | [], us, ns, k, h => ⟨us, ns, h, fun _ h => h, fun κ w M hR hM qs f zs hp hc => by
      cases qs with
      | nil => exact ⟨zs, rfl, hc⟩
      | cons q qs => exact hp.elim⟩
  | (i, v) :: ps, us, ns, k, h => by
    simp only [fillEsK] at h
    obtain ⟨hb, h⟩ := cond_some h
    simp only [Bool.and_eq_true] at hb
    obtain ⟨hi, hcel, hflat, hs⟩ := hb
    have hi : i < n := by simpa [Nat.blt_eq] using hi
    have hs := Nat.eq_of_beq_eq_true hs
    obtain ⟨c, ns1, h1, h2, h3, h4⟩ := shedK_ok _ h
    obtain ⟨us', ns', g1, g2, g3⟩ := fillEsK_ok ps _ _ h1
    refine ⟨us', ns', g1, fun x hx => g2 x (List.mem_append_right _ hx), fun κ w M hR hM qs f zs hp hc => ?_⟩
    cases qs with
    | nil => exact hp.elim
    | cons q qs =>
      obtain ⟨j, u⟩ := q
      obtain ⟨hij, hv, hr⟩ := hp
      subst hij
      have hcv := cells_rel hv hcel
      have hone := flatC_one hflat hcv
      have hcn := h4 κ w M hR (fun n hn => hM n (g2 n (List.mem_append_left _ hn))) _ hcv
      obtain ⟨q1, q2⟩ := arr_set hc hi hcn (by rw [h2, hs]) hone
      obtain ⟨zs', e1, e2⟩ := g3 κ w M hR hM qs f _ hr q1
      refine ⟨zs', ?_, e2⟩
      have hl := hcv.length
      rw [hs] at hl
      rw [fill_step (place := fun i => some (i * s, s)) rfl (by simpa using hl) q2]
      exact e1

/-! ### zeros -/
theorem rep_get {α : Type} (c : List α) (hc : c.length ≠ 0) : ∀ (n k : Nat), ((List.replicate n c).flatten)[k]? = if k < n * c.length then c[k % c.length]? else none
  | 0, k => by simp
  | n + 1, k => by
    rw [List.replicate_succ, List.flatten_cons, List.getElem?_append]
    by_cases h : k < c.length
    · rw [if_pos h, if_pos (by rw [Nat.succ_mul]; omega), Nat.mod_eq_of_lt h]
    · rw [if_neg h, rep_get c hc n (k - c.length)]
      have e : (k - c.length) % c.length = k % c.length := by
        rw [← Nat.mod_eq_sub_mod (by omega)]
      rw [e]
      by_cases h2 : k - c.length < n * c.length
      · rw [if_pos h2, if_pos (by rw [Nat.succ_mul]; omega)]
      · rw [if_neg h2, if_neg (by rw [Nat.succ_mul]; omega)]
theorem zeros_list (z : Array Value) (n : Nat) (hz : z.size ≠ 0) : ((Array.range (n * z.size)).map (z[· % z.size]!)).toList = (List.replicate n z.toList).flatten := by
  apply List.ext_getElem?
  intro k
  rw [rep_get _ (by simpa using hz)]
  simp only [Array.toList_map, Array.toList_range, List.getElem?_map, Array.length_toList]
  by_cases h : k < n * z.size
  · rw [if_pos h]
    have hlt : k % z.size < z.size := Nat.mod_lt _ (Nat.pos_of_ne_zero hz)
    simp [h, hlt]
  · rw [if_neg h]; simp [h]
theorem zeros_rel (hZ : ZerosOk P) {e : TypeId} {c : List AV} {z : Value} (hc : zeroT P e = some c) (hz : qrun P (zeroValue e) = some z) {s : Nat} (hs : cw c = s) (hs0 : s ≠ 0) (n : Nat) (κ : Kap) :
    z.cells.size = s ∧ CRel κ [.arr s n (fun _ => c) []] ((Array.range (n * s)).map (z.cells[· % z.cells.size]!)).toList := by
  obtain ⟨hone, hrel⟩ := zero_rel hZ hc hz
  have hl := (hrel κ).length
  rw [hs] at hl
  have hsz : z.cells.size = s := by simpa using hl
  refine ⟨hsz, ?_⟩
  have := zeros_list z.cells n (by rw [hsz]; exact hs0)
  rw [hsz] at this ⊢
  rw [this]
  refine .arr s n _ [] _ (by rw [rep_len, hl]) (fun y hy => ?_) (fun i _ => hs) (fun i hi => ?_) (by simp) .nil
  · obtain ⟨l, hl2, hy⟩ := List.mem_flatten.1 hy
    rw [List.eq_of_mem_replicate hl2] at hy
    exact hone y hy
  · have := rep_elem z.cells.toList n i hi
    rw [hl] at this
    rw [this]; exact hrel κ.nl
theorem zeros_flat (hZ : ZerosOk P) {e : TypeId} {c : List AV} {z : Value} (hc : zeroT P e = some c) (hz : qrun P (zeroValue e) = some z) {s : Nat} (hs : cw c = s) (hs0 : s ≠ 0) (n : Nat) (κ : Kap) :
    z.cells.size = s ∧ CRel κ (List.replicate n c).flatten ((Array.range (n * s)).map (z.cells[· % z.cells.size]!)).toList := by
  obtain ⟨hone, hrel⟩ := zero_rel hZ hc hz
  have hl := (hrel κ).length
  rw [hs] at hl
  have hsz : z.cells.size = s := by simpa using hl
  refine ⟨hsz, ?_⟩
  have := zeros_list z.cells n (by rw [hsz]; exact hs0)
  rw [hsz] at this ⊢
  rw [this]
  exact rep_rel (hrel κ) n
theorem fold_size (off : Nat) : ∀ (l : List (Value × Nat)) (a : Array Value), a.size = (l.foldl (fun cs (c, j) => cs.setIfInBounds (off + j) c) a).size
  | [], a => rfl
  | p :: l, a => by
    simp only [List.foldl_cons]
    rw [← fold_size off l]; simp
theorem fill_size (place : Nat → Option (Nat × Nat)) : ∀ (qs : List (Nat × Value)) (a b : Array Value), Instr.fill place a qs = some b → a.size = b.size
  | [], a, b, h => by simp only [Instr.fill, Option.some.injEq] at h; rw [h]
  | (i, v) :: qs, a, b, h => by
    simp only [Instr.fill] at h
    split at h
    · cases h
    · split at h
      · cases h
      · have := fill_size place qs _ b h
        rw [← this, ← Array.foldl_toList]
        exact fold_size _ _ _
/-- Each element's cells in their place. -/
def fillFlat (s : Nat) : List AV → List (Nat × AV) → Option (List AV)
  | c, [] => some c
  | c, (i, v) :: r => bif celled v && (flatC (cells v) && Nat.beq (cw (cells v)) s) then
      match putFlat c (i * s) s (cells v) with
      | some c' => fillFlat s c' r
      | none => none
    else none
theorem fillFlat_ok {κ : Kap} {s : Nat} : ∀ (ps : List (Nat × AV)) (qs : List (Nat × Value)) (c c' : List AV) (zs : List Value), fillFlat s c ps = some c' → PRel κ ps qs → CRel κ c zs →
    ∃ zs', Instr.fill (fun i => some (i * s, s)) zs.toArray qs = some zs'.toArray ∧ CRel κ c' zs'
  | [], [], c, c', zs, h, _, hc => by simp only [fillFlat, Option.some.injEq] at h; subst h; exact ⟨zs, rfl, hc⟩
  | [], _ :: _, _, _, _, _, hr, _ => hr.elim
  | _ :: _, [], _, _, _, _, hr, _ => hr.elim
  | (i, v) :: ps, (j, u) :: qs, c, c', zs, h, ⟨hij, hv, hr⟩, hc => by
    subst hij
    simp only [fillFlat] at h
    obtain ⟨hb, h⟩ := cond_some h
    simp only [Bool.and_eq_true] at hb
    have hs := Nat.eq_of_beq_eq_true hb.2.2
    split at h
    · rename_i c1 hc1
      have hcv := cells_rel hv hb.1
      have hput : putK (R := List AV) [] c (i * s) s (cells v) some = some c1 := by simp only [putK, hc1]
      obtain ⟨c2, h2, h3⟩ := putK_ok _ hput
      cases h2
      obtain ⟨q1, q2⟩ := h3 κ zs _ hc (by rw [if_pos rfl]; exact hcv) hs (flatC_one hb.2.1 hcv)
      simp only [plen, Nat.zero_add] at q1 q2
      have hl := hcv.length
      rw [hs] at hl
      obtain ⟨zs', g1, g2⟩ := fillFlat_ok ps qs c1 c' _ h hr q1
      refine ⟨zs', ?_, g2⟩
      rw [fill_step (place := fun i => some (i * s, s)) rfl (by simpa using hl) (by omega)]
      exact g1
    · cases h
section
variable {R : Type} (P)
def buildSliceE (t : TypeId) (len : Nat) (parts : Array (Nat × Operand)) (E : Env) (st : AS) (k : Ent → Option R) : Option R :=
  match qrun P (underlying t) with
  | some (.slice e) => match qrun P (sizeOf e) with
    | some s => bif Nat.beq len 0 && parts.toList.isEmpty then k ⟨.slc st.next [] 0 0 s 0 0, [(st.next, some (.cells [.arr s 0 (fun _ => []) []] true false))], 1, []⟩ else match qrun P (zeroValue e) with
      | some _ => match zeroT P e with
        | some c => match evParts E parts.toList with
          | some ps => bif Nat.ble (len * s) (2 ^ 24) && (!(Nat.beq (len * s) 0) && Nat.beq (cw c) s) then bif rawIn c then (match fillFlat s (List.replicate len c).flatten ps with
                | some c' => k ⟨.slc st.next [] 0 0 s len len, [(st.next, some (.cells c' true false))], 1, []⟩
                | none => none)
              else fillEsK st.mem s len [] ps [] fun us ns => k ⟨.slc st.next [] 0 0 s len len, frz st.mem ns ++ [(st.next, some (.cells [.arr s len (fun _ => c) us] true false))], 1, ns⟩
            else none
          | none => none
        | none => none
      | none => none
    | none => none
  | _ => none
end
theorem buildSliceE_ok (hZ : ZerosOk P) {R : Type} {o : Oper} {t : TypeId} {len : Nat} {parts : Array (Nat × Operand)} (ho : o.op = .buildSlice t len parts) {E : Env} {st : AS} {k : Ent → Option R} {r : R} (h : buildSliceE P t len parts E st k = some r) :
    ∃ e, k e = some r ∧ OpOk P o E st.next (find st.mem) e := by
  unfold buildSliceE at h
  split at h
  · rename_i e hu
    split at h
    · rename_i s hs
      cases hb0 : (Nat.beq len 0 && parts.toList.isEmpty) with
      | true =>
        rw [hb0, cond_true] at h
        simp only [Bool.and_eq_true, List.isEmpty_iff] at hb0
        obtain ⟨q1, q2⟩ := hb0
        have q1 := Nat.eq_of_beq_eq_true q1
        refine ⟨_, h, fun κ a w M K Q hA hR hrd hfr hK => ?_⟩
        have hfr' : κ.loc st.next = none := hfr st.next (Nat.le_refl _) (Nat.lt_succ_self _)
        obtain ⟨k1, k2, k3, k4⟩ := new_row hR hfr' (e := e) (zs := []) (rest := []) (c := [.arr s 0 (fun _ => []) []]) (tip := false) (.arr s 0 _ _ [] (by simp) (fun z hz => by cases hz) (fun i hi => absurd hi (Nat.not_lt_zero _)) (fun i hi => absurd hi (Nat.not_lt_zero _)) rfl .nil) (fun _ => rfl)
        have hrun : (execOp a.eval o).run P w = .ok (.value (.slice (some ⟨w.heap.size, 0, none⟩) 0 0)) (w.alloc (.cells ([] ++ []).toArray e)) := by
          simp only [execOp, ho]
          refine run_value ?_
          unfold Instr.buildSlice
          refine (run_q hu).trans ?_
          refine (run_q hs).trans ?_
          have q3 : parts = #[] := by apply Array.ext'; simpa using q2
          subst q1; subst q3
          simp only [Nat.zero_mul, gt_iff_lt, Nat.not_lt_zero, if_false, if_true]
          refine (run_bind_ok (e := (pure #[] : Sem (Array Value))) (a := #[]) (w' := w) rfl).trans ?_
          have e0 : (Array.range 0).map (fun x => (#[] : Array Value)[x % (#[] : Array Value).size]!) = #[] := by apply Array.ext'; simp
          rw [e0, Array.map_empty]
          rfl
        refine wp_value hrun (hK _ _ _ k1 (fun n hn => Kap.at_ne (name_ne hn)) ?_ ?_ ?_)
        · exact .slc _ _ _ _ _ _ _ w.heap.size 0 _ k4 (.inl rfl) (Nat.le_refl _) (Nat.le_refl _) .nil
        · exact k2
        · exact k3
      | false =>
      rw [hb0, cond_false] at h
      split at h
      · rename_i z hz
        split at h
        · rename_i c hc
          split at h
          · rename_i ps hps
            obtain ⟨hb, h⟩ := cond_some h
            simp only [Bool.and_eq_true, Bool.not_eq_true'] at hb
            obtain ⟨hb1, hb2, hb3⟩ := hb
            have hb1 := Nat.le_of_ble_eq_true hb1
            have hb3 := Nat.eq_of_beq_eq_true hb3
            have hb2 : len * s ≠ 0 := fun e => by rw [e] at hb2; simp at hb2
            have hs0 : s ≠ 0 := fun e => hb2 (by rw [e, Nat.mul_zero])
            cases hraw : rawIn c with
            | true =>
              rw [hraw, cond_true] at h
              split at h
              · rename_i c' hfill
                refine ⟨_, h, fun κ a w M K Q hA hR hrd hfr hK => ?_⟩
                obtain ⟨hsz, hzr⟩ := zeros_flat hZ hc hz hb3 hs0 len κ
                have hpr : PRel κ ps (parts.toList.map fun p => (p.1, a.eval p.2)) := evParts_ok _ _ (fun p hp v hv => hA p.2 (by rw [ho]; simp only [Op.operands]; exact List.mem_toArray.2 (List.mem_map.2 ⟨p, hp, rfl⟩)) v hv) hps
                obtain ⟨zs', g1, g2⟩ := fillFlat_ok ps _ _ c' _ hfill hpr hzr
                have hfr' : κ.loc st.next = none := hfr st.next (Nat.le_refl _) (Nat.lt_succ_self _)
                obtain ⟨k1, k2, k3, k4⟩ := new_row hR hfr' (e := e) (rest := []) (tip := false) g2 (fun _ => rfl)
                have hrun : (execOp a.eval o).run P w = .ok (.value (.slice (some ⟨w.heap.size, 0, none⟩) len len)) (w.alloc (.cells (zs' ++ []).toArray e)) := by
                  simp only [execOp, ho]
                  refine run_value ?_
                  unfold Instr.buildSlice
                  refine (run_q hu).trans ?_
                  refine (run_q hs).trans ?_
                  simp only [gt_iff_lt, Nat.not_lt.2 hb1, if_false, hb2]
                  refine (run_q hz).trans ?_
                  refine (run_bind_ok (e := (pure z.cells : Sem (Array Value))) (a := z.cells) (w' := w) rfl).trans ?_
                  have e1 : (parts.map fun x => match x with | (i, x) => (i, a.eval x)).toList = parts.toList.map fun p => (p.1, a.eval p.2) := by simp
                  have e2 : ((Array.range (len * s)).map (z.cells[· % z.cells.size]!)).toList.toArray = (Array.range (len * s)).map (z.cells[· % z.cells.size]!) := Array.toArray_toList
                  rw [e2] at g1
                  rw [e1, g1]
                  simp only [List.append_nil]
                  rfl
                have hl := g2.length
                have hl0 := hzr.length
                have hlz : zs'.length = len * s := by
                  have h1 := fill_size (fun i => some (i * s, s)) _ _ _ g1
                  simp only [List.size_toArray] at h1
                  rw [← h1]; simp
                refine wp_value hrun (hK _ _ _ k1 (fun n hn => Kap.at_ne (name_ne hn)) ?_ k2 k3)
                exact .slc _ _ _ _ _ _ _ w.heap.size len _ k4 (.inr ⟨by simp [plen], (zs' ++ []).length, by simp [Kap.new, Kap.at, Kap.blk], by simp [plen]; omega⟩) (Nat.le_refl _) (Nat.le_refl _) .nil
              · cases h
            | false =>
            rw [hraw, cond_false] at h
            obtain ⟨us, ns, h1, _, h2⟩ := fillEsK_ok ps _ _ h
            refine ⟨_, h1, fun κ a w M K Q hA hR hrd hfr hK => ?_⟩
            obtain ⟨hsz, hzr⟩ := zeros_rel hZ hc hz hb3 hs0 len κ
            obtain ⟨κ', a1, a2, a3, a4, a5, a6⟩ := MRel.freezeAll (m := st.mem) ns hR fun n' hn' c0 o0 t0 h0 => .inl (by rw [hrd n' hn']; exact h0)
            have hpr : PRel κ ps (parts.toList.map fun p => (p.1, a.eval p.2)) := evParts_ok _ _ (fun p hp v hv => hA p.2 (by rw [ho]; simp only [Op.operands]; exact List.mem_toArray.2 (List.mem_map.2 ⟨p, hp, rfl⟩)) v hv) hps
            obtain ⟨zs', g1, g2⟩ := h2 κ' w _ a3 (fun n' hn' c0 o0 t0 h0 => a6 n' hn' c0 o0 t0 h0) _ _ _ (hpr.mono a1) (hzr.mono a1)
            have hfr' : κ'.loc st.next = none := by rw [a2]; exact hfr st.next (Nat.le_refl _) (Nat.lt_succ_self _)
            obtain ⟨k1, k2, k3, k4⟩ := new_row a3 hfr' (e := e) (rest := []) (tip := false) g2 (fun _ => rfl)
            have hrun : (execOp a.eval o).run P w = .ok (.value (.slice (some ⟨w.heap.size, 0, none⟩) len len)) (w.alloc (.cells (zs' ++ []).toArray e)) := by
              simp only [execOp, ho]
              refine run_value ?_
              unfold Instr.buildSlice
              refine (run_q hu).trans ?_
              refine (run_q hs).trans ?_
              simp only [gt_iff_lt, Nat.not_lt.2 hb1, if_false, hb2]
              refine (run_q hz).trans ?_
              refine (run_bind_ok (e := (pure z.cells : Sem (Array Value))) (a := z.cells) (w' := w) rfl).trans ?_
              have e1 : (parts.map fun x => match x with | (i, x) => (i, a.eval x)).toList = parts.toList.map fun p => (p.1, a.eval p.2) := by simp
              have e2 : ((Array.range (len * s)).map (z.cells[· % z.cells.size]!)).toList.toArray = (Array.range (len * s)).map (z.cells[· % z.cells.size]!) := Array.toArray_toList
              rw [e2] at g1
              rw [e1, g1]
              simp only [List.append_nil]
              rfl
            have hl := g2.length
            simp only [cw, width, Nat.add_zero] at hl
            refine wp_value hrun (hK _ _ _ (Kap.le_trans a1 k1) (fun n hn => ?_) ?_ ?_ ?_)
            · rw [← a2]
              exact Kap.at_ne (name_ne hn)
            · refine .slc _ _ _ _ _ _ _ w.heap.size len _ k4 (.inr ⟨by simp [plen], (zs' ++ []).length, by simp [Kap.new, Kap.at, Kap.blk], by simp [plen]; omega⟩) (Nat.le_refl _) (Nat.le_refl _) .nil
            · show MRel _ (M.sets (frz st.mem ns ++ [(st.next, _)])) _
              rw [Mem.sets_append]; exact k2
            · show Fr κ M w _ (M.sets (frz st.mem ns ++ [(st.next, _)])) _
              rw [Mem.sets_append]; exact a4.trans k3
          · cases h
        · cases h
      · cases h
    · cases h
  · cases h

section
variable {R : Type} (P)
/-- An array by its parts. -/
def buildArrE (t : TypeId) (parts : Array (Nat × Operand)) (E : Env) (m : List (Nat × Row)) (k : Ent → Option R) : Option R :=
  match P.underlying t with
  | some (.array _ e) => match P.info? t with
    | some it => match it.zero with
      | some _ => match zeroT P t with
        | some [.arr s n f us] => match P.info? e with
          | some ie => bif Nat.beq ie.size s then match evParts E parts.toList with
            | some ps => fillEsK m s n us ps [] fun us' ns => match ns with
              | [] => k ⟨.agg [.arr s n f us'], [], 0, []⟩
              | _ => none
            | none => none
            else none
          | none => none
        | _ => none
      | none => none
    | none => none
  | _ => none
end
theorem buildArrE_ok (hZ : ZerosOk P) {R : Type} {o : Oper} {t : TypeId} {parts : Array (Nat × Operand)} (ho : o.op = .build t parts) {E : Env} {m : List (Nat × Row)} {k : Ent → Option R} {r : R} (h : buildArrE P t parts E m k = some r) :
    ∃ v, k ⟨v, [], 0, []⟩ = some r ∧ ∀ m, StillOk P o E m v [] := by
  unfold buildArrE at h
  split at h
  · rename_i n0 e hu
    split at h
    · rename_i it hit
      split at h
      · rename_i z hz
        split at h
        · rename_i s n f us hc
          split at h
          · rename_i ie hie
            obtain ⟨hsz, h1⟩ := cond_some h
            have hsz' := Nat.eq_of_beq_eq_true hsz
            split at h1
            · rename_i ps hps
              obtain ⟨us', ns', h2, _, hfill⟩ := fillEsK_ok _ _ _ h1
              split at h2
              · refine ⟨_, h2, fun m' κ a w M hA hR _ => ?_⟩
                obtain ⟨hone, hrel⟩ := zero_rel hZ hc (zero_of_info hit hz)
                have hpr : PRel κ ps (parts.toList.map fun p => (p.1, a.eval p.2)) := evParts_ok _ _ (fun p hp v hv => hA p.2 (by rw [ho]; simp only [Op.operands]; exact List.mem_toArray.2 (List.mem_map.2 ⟨p, hp, rfl⟩)) v hv) hps
                obtain ⟨zs', g1, g2⟩ := hfill κ w M hR (fun n hn => by cases hn) _ f _ hpr (hrel κ)
                refine ⟨_, .agg _ _ g2 .nil, ?_⟩
                simp only [execOp, ho]
                refine run_value (run_build w t _ zs'.toArray ?_)
                unfold Program.built
                simp only [hit, hu, hz, hie, hsz']
                have e1 : (parts.map fun x => match x with | (i, x) => (i, a.eval x)).toList = parts.toList.map fun p => (p.1, a.eval p.2) := by simp
                rw [e1]; simpa using g1
              · cases h2
            · cases h1
          · cases h
        · cases h
      · cases h
    · cases h
  · cases h
end
end Go.Sv
namespace Go.Sv
noncomputable section
open Go.RowKit
variable {P : Program}

/-- Types of structs and arrays (of this translation) whose '==' is asked cell by cell. -/
def flatT : List Nat := [38, 40, 50, 94, 116, 152, 166, 41, 42]
def memN : List Nat → Nat → Bool
  | [], _ => false
  | x :: xs, n => bif Nat.beq x n then true else memN xs n
def FlatOk (P : Program) : Prop := ∀ t, memN flatT t = true → P.stoodInHeld t = false ∧ P.eqGuardType P.depth t = false

/-! ### '==' of structs and arrays -/
def andO : Bool → Option Bool → Option Bool
  | b, some c => some (b && c)
  | _, none => none
/-- The cells of a part. -/
def sub (P : Program) (c : List AV) (t : TypeId) (off : Nat) : Option (List AV) :=
  match qrun P (isAgg t) with
  | some agg => match qrun P (sizeOf t) with
    | some s => bif agg || Nat.beq s 1 then match dropW c off with
      | some c' => takeW c' s
      | none => none
      else none
    | none => none
  | none => none
def eqF (P : Program) (rec : TypeId → List AV → List AV → Option Bool) (c1 c2 : List AV) : List Field → Option Bool
  | [] => some true
  | f :: fs => bif decide (f.name = "_") then none else
    match sub P c1 f.type f.offset, sub P c2 f.type f.offset with
    | some a, some b => match rec f.type a b with
      | some r => andO r (eqF P rec c1 c2 fs)
      | none => none
    | _, _ => none
def eqAV (P : Program) : Nat → TypeId → List AV → List AV → Option Bool
  | 0, _, _, _ => none
  | d + 1, t, c1, c2 =>
    match qrun P (underlying t) with
    | some .bool => match c1, c2 with
      | [.bool a], [.bool b] => some (a == b)
      | _, _ => none
    | some (.int _) => match c1, c2 with
      | [.int k a], [.int k' b] => bif decide (k = k') then some (a == b) else none
      | _, _ => none
    | some .string => match c1, c2 with
      | [.str a], [.str b] => some (a == b)
      | _, _ => none
    | some (.struct fs) => bif memN flatT t then eqF P (eqAV P d) c1 c2 fs.toList else none
    | some (.array len e) => match c1, c2 with
      | [.arr w n f us], [.arr w' n' g vs] => match qrun P (isAgg e) with
        | some agg => match qrun P (sizeOf e) with
          | some s => bif Nat.beq w s && (Nat.beq w' s && (Nat.beq n len && (Nat.beq n' len && (agg || Nat.beq s 1)))) then
              bif (List.range len).all (fun i => (eqAV P d e (elt us f i) (elt vs g i)).isSome) then some ((List.range len).all fun i => (eqAV P d e (elt us f i) (elt vs g i)).getD false) else none
            else none
          | none => none
        | none => none
      | _, _ => none
    | _ => none

/-- A value of a type, by its cells. -/
def Valof (P : Program) (t : TypeId) (zs : List Value) (u : Value) : Prop := ∃ b, qrun P (isAgg t) = some b ∧ (b = true → u = .agg ⟨zs⟩) ∧ (b = false → zs = [u])
theorem sub_ok {κ : Kap} {c a : List AV} {t : TypeId} {off : Nat} (h : sub P c t off = some a) {zs : List Value} (hc : CRel κ c zs) (w : World) :
    ∃ u ys, (part t ⟨zs⟩ off).run P w = .ok u w ∧ Valof P t ys u ∧ CRel κ a ys := by
  unfold sub at h
  split at h
  · rename_i agg hagg
    split at h
    · rename_i s hs
      obtain ⟨hb, h⟩ := cond_some h
      split at h
      · rename_i c' hd
        obtain ⟨h1, h2⟩ := hc.dropW hd
        obtain ⟨h3, h4⟩ := h1.takeW h
        cases agg with
        | true =>
          refine ⟨_, _, ?_, ⟨true, hagg, fun _ => rfl, (fun h => by cases h)⟩, h3⟩
          unfold part
          refine (run_q hagg).trans ?_
          simp only [if_true]
          refine (run_q hs).trans ?_
          have : (⟨zs⟩ : Array Value).extract off (off + s) = ⟨(zs.drop off).take s⟩ := by
            apply Array.ext'
            simp
          rw [this]; rfl
        | false =>
          simp only [Bool.false_or] at hb
          have := Nat.eq_of_beq_eq_true hb
          subst this
          have hlt : off < zs.length := by simp only [List.length_drop] at h4; omega
          have hz : (zs.drop off).take 1 = [zs[off]] := by rw [List.drop_eq_getElem_cons hlt, List.take_succ_cons, List.take_zero]
          rw [hz] at h3
          refine ⟨_, _, ?_, ⟨false, hagg, (fun h => by cases h), fun _ => rfl⟩, h3⟩
          unfold part
          refine (run_q hagg).trans ?_
          have : (⟨zs⟩ : Array Value)[off]? = some zs[off] := by simp [hlt]
          simp only [Bool.false_eq_true, if_false, this]; rfl
      · cases h
    · cases h
  · cases h

theorem andO_spec {b : Bool} {r : Option Bool} {c : Bool} (h : andO b r = some c) : ∃ d, r = some d ∧ c = (b && d) := by
  cases r with
  | none => cases h
  | some d => exact ⟨d, rfl, (Option.some.inj h).symm⟩
theorem eqF_run {κ : Kap} {w : World} {d : Nat} {rec : TypeId → List AV → List AV → Option Bool}
    (hrec : ∀ t c1 c2 b, rec t c1 c2 = some b → ∀ zs1 zs2 u v, CRel κ c1 zs1 → CRel κ c2 zs2 → Valof P t zs1 u → Valof P t zs2 v → (Op.equalIn d t u v).run P w = .ok b w)
    {c1 c2 : List AV} {zs1 zs2 : List Value} (h1 : CRel κ c1 zs1) (h2 : CRel κ c2 zs2) : ∀ (fs : List Field) (b : Bool), eqF P rec c1 c2 fs = some b →
    (forIn fs ((none, ()) : Option Bool × Unit) (fun (f : Field) (_ : Option Bool × Unit) => (if f.name ≠ "_" then do
        let u ← part f.type ⟨zs1⟩ f.offset
        let v ← part f.type ⟨zs2⟩ f.offset
        let c ← Op.equalIn d f.type u v
        if (!c) = true then pure (ForInStep.done (some false, ())) else pure (ForInStep.yield (none, ()))
      else pure (ForInStep.yield (none, ())) : Sem (ForInStep (Option Bool × Unit))))).run P w = .ok (if b then none else some false, ()) w
  | [], b, h => by
    simp only [eqF, Option.some.injEq] at h
    subst h
    rfl
  | f :: fs, b, h => by
    simp only [eqF] at h
    obtain ⟨hnm, h⟩ := cond_some' h
    have hne : f.name ≠ "_" := of_decide_eq_false hnm
    split at h
    · rename_i a1 a2 hs1 hs2
      split at h
      · rename_i c hc
        obtain ⟨e, he, rfl⟩ := andO_spec h
        obtain ⟨u, y1, hu, hv1, hr1⟩ := sub_ok hs1 h1 w
        obtain ⟨v, y2, hv, hv2, hr2⟩ := sub_ok hs2 h2 w
        rw [List.forIn_cons]
        rw [if_pos hne]
        have hbody : (do
            let u ← part f.type ⟨zs1⟩ f.offset
            let v ← part f.type ⟨zs2⟩ f.offset
            let c ← Op.equalIn d f.type u v
            if (!c) = true then pure (ForInStep.done (some false, ())) else pure (ForInStep.yield (none, ())) : Sem (ForInStep (Option Bool × Unit))).run P w = .ok (if c then ForInStep.yield (none, ()) else ForInStep.done (some false, ())) w := by
          refine (run_bind_ok hu).trans ?_
          refine (run_bind_ok hv).trans ?_
          refine (run_bind_ok (hrec _ _ _ _ hc _ _ _ _ hr1 hr2 hv1 hv2)).trans ?_
          cases c <;> rfl
        refine (run_bind_ok hbody).trans ?_
        cases c with
        | false => rfl
        | true =>
          simp only [if_true, Bool.true_and]
          exact eqF_run hrec h1 h2 fs e he
      · cases h
    · cases h
theorem eqE_run {w : World} {d n : Nat} {e : TypeId} {xs ys : Array Value} {F : Nat → Bool} : ∀ (is : List Nat), (∀ i ∈ is, ∃ u v c, (part e xs (i * n)).run P w = .ok u w ∧ (part e ys (i * n)).run P w = .ok v w ∧ (Op.equalIn d e u v).run P w = .ok c w ∧ F i = c) →
    (forIn is ((none, ()) : Option Bool × Unit) (fun (i : Nat) (_ : Option Bool × Unit) => (do
        let u ← part e xs (i * n)
        let v ← part e ys (i * n)
        let c ← Op.equalIn d e u v
        if (!c) = true then pure (ForInStep.done (some false, ())) else pure (ForInStep.yield (none, ())) : Sem (ForInStep (Option Bool × Unit))))).run P w = .ok (if is.all F then none else some false, ()) w
  | [], _ => rfl
  | i :: is, h => by
    obtain ⟨u, v, c, hu, hv, hc, hF⟩ := h i (List.mem_cons_self ..)
    rw [List.forIn_cons]
    have hbody : (do
        let u ← part e xs (i * n)
        let v ← part e ys (i * n)
        let c ← Op.equalIn d e u v
        if (!c) = true then pure (ForInStep.done (some false, ())) else pure (ForInStep.yield (none, ())) : Sem (ForInStep (Option Bool × Unit))).run P w = .ok (if c then ForInStep.yield (none, ()) else ForInStep.done (some false, ())) w := by
      refine (run_bind_ok hu).trans ?_
      refine (run_bind_ok hv).trans ?_
      refine (run_bind_ok hc).trans ?_
      cases c <;> rfl
    refine (run_bind_ok hbody).trans ?_
    rw [List.all_cons, hF]
    cases c with
    | false => rfl
    | true =>
      simp only [if_true, Bool.true_and]
      exact eqE_run is fun j hj => h j (List.mem_cons_of_mem _ hj)

theorem valof_agg {t : TypeId} {zs : List Value} {u : Value} (h : Valof P t zs u) (ha : qrun P (isAgg t) = some true) : u = .agg ⟨zs⟩ := by
  obtain ⟨b, h1, h2, _⟩ := h
  rw [ha] at h1; cases h1; exact h2 rfl
theorem valof_one {t : TypeId} {zs : List Value} {u : Value} (h : Valof P t zs u) (ha : qrun P (isAgg t) = some false) : zs = [u] := by
  obtain ⟨b, h1, _, h2⟩ := h
  rw [ha] at h1; cases h1; exact h2 rfl
theorem isAgg_of {t : TypeId} {d : TypeDesc} (h : qrun P (underlying t) = some d) : qrun P (isAgg t) = some (match d with | .struct _ | .array _ _ => true | _ => false) := by
  have : ∀ (e : Sem TypeDesc), qrun P e = some d → ∀ (f : TypeDesc → Sem Bool), qrun P (e.bind f) = qrun P (f d) := by
    intro e
    induction e with
    | pure a => intro h f; simp only [qrun, Option.some.injEq] at h; subst h; rfl
    | program k ih => intro h f; exact ih P h f
    | mark m k ih => intro h f; exact ih h f
    | _ => intro h; simp [qrun] at h
  unfold isAgg
  refine (this _ h _).trans ?_
  cases d <;> rfl

theorem eqArr {κ : Kap} {w : World} {d : Nat} {t e : TypeId} {W n : Nat} {agg : Bool} {f g : Nat → List AV} {us vs : List (Nat × List AV)} {zs1 zs2 : List Value}
    (ih : ∀ c1 c2 b, eqAV P d e c1 c2 = some b → ∀ κ zs1 zs2 u v, CRel κ c1 zs1 → CRel κ c2 zs2 → Valof P e zs1 u → Valof P e zs2 v → (Op.equalIn d e u v).run P w = .ok b w)
    (hu : qrun P (underlying t) = some (.array n e)) (hagg : qrun P (isAgg e) = some agg) (hs : qrun P (sizeOf e) = some W) (q5 : (agg || Nat.beq W 1) = true)
    (hall : (List.range n).all (fun i => (eqAV P d e (elt us f i) (elt vs g i)).isSome) = true) (r1 : CRel κ [.arr W n f us] zs1) (r2 : CRel κ [.arr W n g vs] zs2) :
    (Op.equalIn (d + 1) t (.agg ⟨zs1⟩) (.agg ⟨zs2⟩)).run P w = .ok ((List.range n).all fun i => (eqAV P d e (elt us f i) (elt vs g i)).getD false) w := by
  obtain ⟨a1, a2, a3, _⟩ := r1.arr_inv
  obtain ⟨b1, b2, b3, _⟩ := r2.arr_inv
  have hpart : ∀ (zs : List Value) (i : Nat) (c : List AV), i < n → n * W ≤ zs.length → CRel κ.nl c ((zs.drop (i * W)).take W) → ∃ u, (part e ⟨zs⟩ (i * W)).run P w = .ok u w ∧ Valof P e ((zs.drop (i * W)).take W) u := by
    intro zs i c hi hz hc
    have hle : i * W + W ≤ n * W := by
      have := Nat.mul_le_mul_right W (Nat.succ_le_of_lt hi)
      rw [Nat.succ_mul] at this; exact this
    cases agg with
    | true =>
      refine ⟨_, ?_, true, hagg, fun _ => rfl, (fun h => by cases h)⟩
      unfold part
      refine (run_q hagg).trans ?_
      simp only [if_true]
      refine (run_q hs).trans ?_
      have : (⟨zs⟩ : Array Value).extract (i * W) (i * W + W) = ⟨(zs.drop (i * W)).take W⟩ := by
        apply Array.ext'
        simp
      rw [this]; rfl
    | false =>
      simp only [Bool.false_or] at q5
      have := Nat.eq_of_beq_eq_true q5
      subst this
      have hlt : i * 1 < zs.length := by omega
      have hz : (zs.drop (i * 1)).take 1 = [zs[i * 1]] := by rw [List.drop_eq_getElem_cons hlt, List.take_succ_cons, List.take_zero]
      refine ⟨_, ?_, false, hagg, (fun h => by cases h), fun _ => hz⟩
      unfold part
      refine (run_q hagg).trans ?_
      have : (⟨zs⟩ : Array Value)[i * 1]? = some zs[i * 1] := by simp only [List.getElem?_toArray]; exact List.getElem?_eq_getElem hlt
      simp only [Bool.false_eq_true, if_false, this]; rfl
  simp only [Op.equalIn]
  refine (run_q hu).trans ?_
  refine (run_q hs).trans ?_
  rw [Std.Legacy.Range.forIn_eq_forIn_range']
  simp only [Std.Legacy.Range.size, Nat.sub_zero, Nat.add_one_sub_one, Nat.div_one]
  have hr : List.range n = List.range' 0 n := List.range_eq_range'
  rw [hr] at hall ⊢
  have := eqE_run (P := P) (w := w) (d := d) (n := W) (e := e) (xs := ⟨zs1⟩) (ys := ⟨zs2⟩) (F := fun i => (eqAV P d e (elt us f i) (elt vs g i)).getD false) (List.range' 0 n) (fun i hi => by
    have hlt : i < n := by have := List.mem_range'_1.1 hi; omega
    obtain ⟨u1, hu1, hv1⟩ := hpart zs1 i _ hlt a1 (a3 i hlt)
    obtain ⟨u2, hu2, hv2⟩ := hpart zs2 i _ hlt b1 (b3 i hlt)
    have hs' := List.all_eq_true.1 hall i hi
    obtain ⟨c, hc⟩ := Option.isSome_iff_exists.1 hs'
    exact ⟨u1, u2, c, hu1, hu2, ih _ _ c hc κ.nl _ _ _ _ (a3 i hlt) (b3 i hlt) hv1 hv2, by simp only [hc, Option.getD_some]⟩)
  refine (run_bind_ok this).trans ?_
  cases (List.range' 0 n).all _ <;> rfl

theorem eqAV_ok (hT : FlatOk P) {w : World} : ∀ (d : Nat) (t : TypeId) (c1 c2 : List AV) (b : Bool), eqAV P d t c1 c2 = some b →
    ∀ (κ : Kap) (zs1 zs2 : List Value) (u v : Value), CRel κ c1 zs1 → CRel κ c2 zs2 → Valof P t zs1 u → Valof P t zs2 v → (Op.equalIn d t u v).run P w = .ok b w
  | 0, t, c1, c2, b, h => by simp [eqAV] at h
  | d + 1, t, c1, c2, b, h => by
    intro κ zs1 zs2 u v r1 r2 v1 v2
    simp only [eqAV] at h
    split at h
    · rename_i hu
      have ha := isAgg_of hu
      split at h
      · rename_i a a'
        simp only [Option.some.injEq] at h; subst h
        have e1 := valof_one v1 ha; have e2 := valof_one v2 ha
        subst e1; subst e2
        cases r1; cases r2
        simp only [Op.equalIn]
        exact (run_q hu).trans rfl
      · cases h
    · rename_i k0 hu
      have ha := isAgg_of hu
      split at h
      · rename_i k a k' a'
        obtain ⟨hk, h⟩ := cond_some h
        have hk := of_decide_eq_true hk
        simp only [Option.some.injEq] at h; subst h
        have e1 := valof_one v1 ha; have e2 := valof_one v2 ha
        subst e1; subst e2
        cases r1; cases r2
        simp only [Op.equalIn]
        refine (run_q hu).trans ?_
        simp only [if_pos hk]; rfl
      · cases h
    · rename_i hu
      have ha := isAgg_of hu
      split at h
      · rename_i a a'
        simp only [Option.some.injEq] at h; subst h
        have e1 := valof_one v1 ha; have e2 := valof_one v2 ha
        subst e1; subst e2
        cases r1; cases r2
        simp only [Op.equalIn]
        refine (run_q hu).trans ?_
        have : ((⟨a.toArray⟩ : ByteArray) == ⟨a'.toArray⟩) = (a == a') := by
          rw [beq_toListBytes]; simp
        simp only [this]; rfl
      · cases h
    · rename_i fs hu
      have ha := isAgg_of hu
      obtain ⟨hmt, h⟩ := cond_some h
      have hst := (hT t hmt).1
      have e1 := valof_agg v1 ha; have e2 := valof_agg v2 ha
      subst e1; subst e2
      simp only [Op.equalIn]
      refine (run_q hu).trans ?_
      refine (run_bind_ok (e := program) (a := P) (w' := w) rfl).trans ?_
      rw [hst, if_neg (by simp)]
      have := eqF_run (P := P) (w := w) (d := d) (fun t c1 c2 b h => eqAV_ok hT d t c1 c2 b h κ) r1 r2 fs.toList b h
      rw [← Array.forIn_toList]
      refine (run_bind_ok this).trans ?_
      cases b <;> rfl
    · rename_i len e hu
      have ha := isAgg_of hu
      split at h
      · rename_i W n f us W' n' g vs
        split at h
        · rename_i agg hagg
          split at h
          · rename_i s hs
            obtain ⟨hb, g1⟩ := cond_some h; clear h
            obtain ⟨hall, h⟩ := cond_some g1; clear g1
            simp only [Bool.and_eq_true] at hb
            obtain ⟨q1, q2, q3, q4, q5⟩ := hb
            have q1 := Nat.eq_of_beq_eq_true q1; have q2 := Nat.eq_of_beq_eq_true q2; have q3 := Nat.eq_of_beq_eq_true q3; have q4 := Nat.eq_of_beq_eq_true q4
            subst q1; subst q2; subst q3; subst q4
            simp only [Option.some.injEq] at h; subst h
            have e1 := valof_agg v1 ha; have e2 := valof_agg v2 ha
            subst e1; subst e2
            exact eqArr (fun c1 c2 b h κ => eqAV_ok hT d e c1 c2 b h κ) hu hagg hs q5 hall r1 r2
          · cases h
        · cases h
      · cases h
    · cases h

/-! ### two operands, one operand -/
def aggT (P : Program) (t : TypeId) : Bool := match qrun P (isAgg t) with | some true => true | _ => false
section
variable {R : Type} (P)
def intOp (op : BinOp) (kd kd' : IntKind) (a b : Int) (k : Ent → Option R) (other : Option R) : Option R :=
  match op with
  | .shl => bif decide (b < 0) then none else k ⟨.int kd (kd.wrap (a * 2 ^ (min b.toNat kd.bits))), [], 0, []⟩
  | .shr => bif decide (b < 0) then none else k ⟨.int kd (a.fdiv (2 ^ (min b.toNat kd.bits))), [], 0, []⟩
  | .quo => bif decide (kd = kd') then bif decide (b = 0) then none else k ⟨.int kd (kd.wrap (a.tdiv b)), [], 0, []⟩ else none
  | .rem => bif decide (kd = kd') then bif decide (b = 0) then none else k ⟨.int kd (a.tmod b), [], 0, []⟩ else none
  | .add => bif decide (kd = kd') then k ⟨.int kd (kd.wrap (a + b)), [], 0, []⟩ else none
  | .sub => bif decide (kd = kd') then k ⟨.int kd (kd.wrap (a - b)), [], 0, []⟩ else none
  | .mul => bif decide (kd = kd') then k ⟨.int kd (kd.wrap (a * b)), [], 0, []⟩ else none
  | .eql => bif decide (kd = kd') then k ⟨.bool (a == b), [], 0, []⟩ else none
  | .neq => bif decide (kd = kd') then k ⟨.bool (a != b), [], 0, []⟩ else none
  | .lss => bif decide (kd = kd') then k ⟨.bool (decide (a < b)), [], 0, []⟩ else none
  | .leq => bif decide (kd = kd') then k ⟨.bool (decide (a ≤ b)), [], 0, []⟩ else none
  | .gtr => bif decide (kd = kd') then k ⟨.bool (decide (a > b)), [], 0, []⟩ else none
  | .geq => bif decide (kd = kd') then k ⟨.bool (decide (a ≥ b)), [], 0, []⟩ else none
  | _ => other
def binE (o : Oper) (op : BinOp) (t : TypeId) (x y : Operand) (E : Env) (k : Ent → Option R) : Option R :=
  match aeval E x, aeval E y with
  | some (.int kd a), some (.int kd' b) => intOp op kd kd' a b k (pureE P o E k)
  | some (.str a), some (.str b) =>
    match op with
    | .eql => k ⟨.bool (a == b), [], 0, []⟩
    | .neq => k ⟨.bool (!(a == b)), [], 0, []⟩
    | .add => bif decide (((a.length + b.length : Nat) : Int) > IntKind.i64.max) then none else k ⟨.str (a ++ b), [], 0, []⟩
    | _ => pureE P o E k
  | some (.agg a), some (.agg b) =>
    bif memN flatT t && aggT P t then
      match eqAV P Op.maxDepth t a b with
      | some r =>
        match op with
        | .eql => k ⟨.bool r, [], 0, []⟩
        | .neq => k ⟨.bool (!r), [], 0, []⟩
        | _ => none
      | none => none
    else none
  | some (.lst _ _ len _), some (.raw (.slice none 0 0)) =>
    match P.underlying t with
    | some (.slice _) =>
      match op with
      | .eql => bif Nat.blt 0 len then k ⟨.bool false, [], 0, []⟩ else none
      | .neq => bif Nat.blt 0 len then k ⟨.bool true, [], 0, []⟩ else none
      | _ => none
    | _ => none
  | _, _ => pureE P o E k
end
theorem intOp_ok {R : Type} {op : BinOp} {kd kd' : IntKind} {a b : Int} {k : Ent → Option R} {other : Option R} {r : R} (h : intOp op kd kd' a b k other = some r) :
    (∃ v v', k ⟨v, [], 0, []⟩ = some r ∧ (∀ κ, VRel κ v v') ∧ ∀ (t : TypeId) (w : World), (binOp op t (.int kd a) (.int kd' b)).run P w = .ok v' w) ∨ other = some r := by
  have same : ∀ {x : Option R} {v : AV} {v' : Value}, (bif decide (kd = kd') then k ⟨v, [], 0, []⟩ else none) = some r → (∀ κ, VRel κ v v') → (kd = kd' → ∀ (t : TypeId) (w : World), (binOp op t (.int kd a) (.int kd' b)).run P w = .ok v' w) →
      (∃ v v', k ⟨v, [], 0, []⟩ = some r ∧ (∀ κ, VRel κ v v') ∧ ∀ (t : TypeId) (w : World), (binOp op t (.int kd a) (.int kd' b)).run P w = .ok v' w) ∨ x = some r := by
    intro x v v' h hv hrun
    obtain ⟨hk, h⟩ := cond_some h
    exact .inl ⟨v, v', h, hv, hrun (of_decide_eq_true hk)⟩
  unfold intOp at h
  split at h
  · obtain ⟨hb, h⟩ := cond_some' h
    have hb := of_decide_eq_false hb
    exact .inl ⟨_, _, h, fun κ => .int _ _ .nil, fun t w => by simp only [binOp, Op.shift, if_neg hb]; rfl⟩
  · obtain ⟨hb, h⟩ := cond_some' h
    have hb := of_decide_eq_false hb
    exact .inl ⟨_, _, h, fun κ => .int _ _ .nil, fun t w => by simp only [binOp, Op.shift, if_neg hb]; rfl⟩
  · obtain ⟨hk, h⟩ := cond_some h
    have hk := of_decide_eq_true hk
    obtain ⟨hb, h⟩ := cond_some' h
    have hb := of_decide_eq_false hb
    exact .inl ⟨_, _, h, fun κ => .int _ _ .nil, fun t w => by subst hk; simp only [binOp, Op.intDiv, if_neg hb, ne_eq, not_true_eq_false, if_false]; rfl⟩
  · obtain ⟨hk, h⟩ := cond_some h
    have hk := of_decide_eq_true hk
    obtain ⟨hb, h⟩ := cond_some' h
    have hb := of_decide_eq_false hb
    exact .inl ⟨_, _, h, fun κ => .int _ _ .nil, fun t w => by subst hk; simp only [binOp, Op.intDiv, if_neg hb, ne_eq, not_true_eq_false, if_false]; rfl⟩
  · exact same h (fun κ => .int _ _ .nil) fun hk t w => by subst hk; simp only [binOp, Op.intArith, ne_eq, not_true_eq_false, if_false]; rfl
  · exact same h (fun κ => .int _ _ .nil) fun hk t w => by subst hk; simp only [binOp, Op.intArith, ne_eq, not_true_eq_false, if_false]; rfl
  · exact same h (fun κ => .int _ _ .nil) fun hk t w => by subst hk; simp only [binOp, Op.intArith, ne_eq, not_true_eq_false, if_false]; rfl
  · exact same h (fun κ => .bool _ .nil) fun hk t w => by subst hk; simp only [binOp, Op.intCmp, ne_eq, not_true_eq_false, if_false]; rfl
  · exact same h (fun κ => .bool _ .nil) fun hk t w => by subst hk; simp only [binOp, Op.intCmp, ne_eq, not_true_eq_false, if_false]; rfl
  · exact same h (fun κ => .bool _ .nil) fun hk t w => by subst hk; simp only [binOp, Op.intCmp, ne_eq, not_true_eq_false, if_false]; rfl
  · exact same h (fun κ => .bool _ .nil) fun hk t w => by subst hk; simp only [binOp, Op.intCmp, ne_eq, not_true_eq_false, if_false]; rfl
  · exact same h (fun κ => .bool _ .nil) fun hk t w => by subst hk; simp only [binOp, Op.intCmp, ne_eq, not_true_eq_false, if_false]; rfl
  · exact same h (fun κ => .bool _ .nil) fun hk t w => by subst hk; simp only [binOp, Op.intCmp, ne_eq, not_true_eq_false, if_false]; rfl
  · exact .inr h

theorem binE_ok (hT : FlatOk P) {R : Type} {o : Oper} {op : BinOp} {t : TypeId} {x y : Operand} {z : TypeId} (ho : o.op = .binOp op t x y z) {E : Env} {k : Ent → Option R} {r : R} (h : binE P o op t x y E k = some r) :
    ∃ v, k ⟨v, [], 0, []⟩ = some r ∧ ∀ m, StillOk P o E m v [] := by
  have hmx : x ∈ o.op.operands := by rw [ho]; simp [Op.operands]
  have hmy : y ∈ o.op.operands := by rw [ho]; simp [Op.operands]
  unfold binE at h
  split at h
  · rename_i kd a kd' b hx hy
    rcases intOp_ok (P := P) h with ⟨v, v', h1, h2, h3⟩ | h
    · refine ⟨v, h1, fun m κ a' w M hA hR _ => ⟨v', h2 κ, ?_⟩⟩
      have e1 := int_of (hA x hmx _ hx)
      have e2 := int_of (hA y hmy _ hy)
      simp only [execOp, ho, e1, e2]
      refine run_value ?_
      refine (run_bind_ok (e := eqGuard op t x y (.int kd a) (.int kd' b)) (a := ()) (w' := w) ?_).trans (h3 t w)
      unfold eqGuard
      split <;> rfl
    · exact pureE_ok h
  · rename_i a b hx hy
    have key : ∀ (v' : Value) (v : AV), (∀ κ, VRel κ v v') → (∀ w : World, (binOp op t (.string ⟨a.toArray⟩) (.string ⟨b.toArray⟩)).run P w = .ok v' w) → ∀ m, StillOk P o E m v [] := by
      intro v' v hv hrun m κ a' w M hA hR _
      refine ⟨v', hv κ, ?_⟩
      have e1 : a'.eval x = .string ⟨a.toArray⟩ := by
        have := hA x hmx _ hx
        generalize a'.eval x = u at this
        cases this; rfl
      have e2 : a'.eval y = .string ⟨b.toArray⟩ := by
        have := hA y hmy _ hy
        generalize a'.eval y = u at this
        cases this; rfl
      simp only [execOp, ho, e1, e2]
      refine run_value ?_
      refine (run_bind_ok (e := eqGuard op t x y _ _) (a := ()) (w' := w) ?_).trans (hrun w)
      unfold eqGuard
      split <;> rfl
    split at h
    · exact ⟨_, h, key _ _ (fun κ => .bool _ .nil) fun w => by simp only [binOp, Op.stringOp, ByteArray.toList_mk]; rfl⟩
    · exact ⟨_, h, key _ _ (fun κ => .bool _ .nil) fun w => by simp only [binOp, Op.stringOp, ByteArray.toList_mk]; rfl⟩
    · obtain ⟨hb, h⟩ := cond_some' h
      have hb := of_decide_eq_false hb
      refine ⟨_, h, key (.string (⟨a.toArray⟩ ++ ⟨b.toArray⟩)) _ (fun κ => ?_) fun w => ?_⟩
      · have e : (⟨a.toArray⟩ ++ ⟨b.toArray⟩ : ByteArray) = ⟨(a ++ b).toArray⟩ := by
          apply ByteArray.ext; simp
        rw [e]; exact .str _ .nil
      · simp only [binOp, Op.stringOp]
        rw [if_neg (by simpa [ByteArray.size] using hb)]
        rfl
    · exact pureE_ok h
  · rename_i a b hx hy
    obtain ⟨hm, h⟩ := cond_some h
    simp only [Bool.and_eq_true] at hm
    have hg := (hT t hm.1).2
    have hagg : qrun P (isAgg t) = some true := by
      have := hm.2
      unfold aggT at this
      split at this
      · assumption
      · cases this
    split at h
    · rename_i b' heq
      have key : ∀ (f : Bool → Bool), ((op = .eql ∧ f = id) ∨ (op = .neq ∧ f = not)) → ∀ m, StillOk P o E m (.bool (f b')) [] := by
        intro f hop m κ a' w M hA hR _
        refine ⟨_, .bool _ .nil, ?_⟩
        have r1 := hA x hmx _ hx
        have r2 := hA y hmy _ hy
        generalize e1 : a'.eval x = u1 at r1
        generalize e2 : a'.eval y = u2 at r2
        cases r1 with
        | agg _ zs1 c1 _ =>
          cases r2 with
          | agg _ zs2 c2 _ =>
            simp only [execOp, ho, e1, e2]
            have hgr : (eqGuard op t x y (.agg ⟨zs1⟩) (.agg ⟨zs2⟩)).run P w = .ok () w := by
              unfold eqGuard
              rcases hop with ⟨rfl, _⟩ | ⟨rfl, _⟩
              · refine (run_bind_ok (e := program) (a := P) (w' := w) rfl).trans ?_
                simp [hg, pure]
              · refine (run_bind_ok (e := program) (a := P) (w' := w) rfl).trans ?_
                simp [hg, pure]
            have heq' : (Op.equal t (.agg ⟨zs1⟩) (.agg ⟨zs2⟩)).run P w = .ok b' w :=
              eqAV_ok hT _ _ _ _ _ heq κ zs1 zs2 _ _ c1 c2 ⟨true, hagg, fun _ => rfl, fun h => by cases h⟩ ⟨true, hagg, fun _ => rfl, fun h => by cases h⟩
            refine run_value ?_
            refine (run_bind_ok hgr).trans ?_
            rcases hop with ⟨rfl, rfl⟩ | ⟨rfl, rfl⟩
            · exact (run_bind_ok heq').trans rfl
            · exact (run_bind_ok heq').trans rfl
      split at h
      · exact ⟨_, h, key id (.inl ⟨rfl, rfl⟩)⟩
      · exact ⟨_, h, key not (.inr ⟨rfl, rfl⟩)⟩
      · cases h
    · cases h
  · rename_i W f len us hx hy
    split at h
    · rename_i e hu
      have key : 0 < len → ∀ (v : Bool), ((op = .eql ∧ v = false) ∨ (op = .neq ∧ v = true)) → ∀ m, StillOk P o E m (.bool v) [] := by
        intro hl v hop m κ a' w M hA hR _
        refine ⟨_, .bool _ .nil, ?_⟩
        have r1 := hA x hmx _ hx
        have r2 := hA y hmy _ hy
        generalize e1 : a'.eval x = u1 at r1
        generalize e2 : a'.eval y = u2 at r2
        cases r2 with
        | raw _ _ =>
          have hs : ∃ ad c, u1 = .slice (some ad) len c := by
            cases r1 with
            | lst _ _ b off cap _ _ cs => exact ⟨_, _, rfl⟩
            | lst0 => omega
          obtain ⟨ad, c, rfl⟩ := hs
          simp only [execOp, ho, e1, e2]
          refine run_value ?_
          refine (run_bind_ok (e := eqGuard op t x y _ _) (a := ()) (w' := w) ?_).trans ?_
          · unfold eqGuard
            split <;> rfl
          · rcases hop with ⟨rfl, rfl⟩ | ⟨rfl, rfl⟩
            · exact Lib.run_eql_slice_nil w _ _ _ _ _ _ _ hu
            · exact run_neq_slice_nil_any w _ _ _ _ _ _ _ hu
      split at h
      · obtain ⟨hb, h⟩ := cond_some h
        exact ⟨_, h, key (by simpa using hb) _ (.inl ⟨rfl, rfl⟩)⟩
      · obtain ⟨hb, h⟩ := cond_some h
        exact ⟨_, h, key (by simpa using hb) _ (.inr ⟨rfl, rfl⟩)⟩
      · cases h
    · cases h
  · exact pureE_ok h
end
end Go.Sv
namespace Go.Sv
noncomputable section
open Go.RowKit
variable {P : Program}

/-! ### what only hands on -/
section
variable {R : Type} (P)
def moveE (x : Operand) (E : Env) (k : Ent → Option R) : Option R :=
  match aeval E x with
  | some v => k ⟨v, [], 0, []⟩
  | none => none
def pickE (c x y : Operand) (E : Env) (k : Ent → Option R) : Option R :=
  match aeval E c with
  | some (.bool b) => match aeval E x with
    | some v => match aeval E y with
      | some (.bool u) => match v with
        | .bool v => k ⟨.bool (bif b then v else u), [], 0, []⟩
        | v => bif b then k ⟨v, [], 0, []⟩ else k ⟨.bool u, [], 0, []⟩
      | some u => bif b then k ⟨v, [], 0, []⟩ else k ⟨u, [], 0, []⟩
      | none => none
    | none => none
  | _ => none
def nthA : List AV → Nat → Option AV
  | [], _ => none
  | x :: xs, n => bif Nat.beq n 0 then some x else nthA xs (n - 1)
def extractE (x : Operand) (i : Nat) (E : Env) (k : Ent → Option R) : Option R :=
  match aeval E x with
  | some (.tup c) => bif c.all (fun x => !isArr x) then match nthA c i with
    | some v => k ⟨v, [], 0, []⟩
    | none => none
    else none
  | _ => none
def nilCheckE (o : Oper) (x : Operand) (E : Env) (k : Ent → Option R) : Option R :=
  match aeval E x with
  | some (.ptr n p i) => k ⟨.ptr n p i, [], 0, []⟩
  | some (.sptr c i) => k ⟨.sptr c i, [], 0, []⟩
  | some (.fn f a b) => k ⟨.fn f a b, [], 0, []⟩
  | some (.ifc t v) => k ⟨.ifc t v, [], 0, []⟩
  | _ => pureE P o E k
def makeInterfaceE (t : TypeId) (x : Operand) (E : Env) (k : Ent → Option R) : Option R :=
  match qrun P (underlying t) with
  | some (.interface _) => none
  | some _ => match aeval E x with
    | some v => bif isArr v then none else k ⟨.ifc t v, [], 0, []⟩
    | none => none
  | none => none
def makeFuncE (fn : Fn) (first captured : Array Operand) (E : Env) (k : Ent → Option R) : Option R :=
  match fn with
  | .func f => match aevals E first.toList with
    | some a => match aevals E captured.toList with
      | some b => bif a.all (fun x => !isArr x) && b.all (fun x => !isArr x) then k ⟨.fn f a b, [], 0, []⟩ else none
      | none => none
    | none => none
  | _ => none
/-- Lengths. -/
def lenE (o : Oper) (t : TypeId) (x : Operand) (E : Env) (k : Ent → Option R) : Option R :=
  match aeval E x with
  | some (.slc _ _ _ _ _ len _) => match qrun P (underlying t) with
    | some (.slice _) => k ⟨.int .i64 (len : Int), [], 0, []⟩
    | _ => none
  | some (.lst _ _ len _) => match qrun P (underlying t) with
    | some (.slice _) => k ⟨.int .i64 (len : Int), [], 0, []⟩
    | _ => none
  | some (.str l) => match qrun P (underlying t) with
    | some .string => k ⟨.int .i64 (l.length : Int), [], 0, []⟩
    | _ => none
  | some (.mp _) => none
  | some _ => match qrun P (underlying t) with
    | some (.array n _) => k ⟨.int .i64 (n : Int), [], 0, []⟩
    | _ => pureE P o E k
  | none => none
def minE (o : Oper) (isMax : Bool) (args : List Operand) (E : Env) (k : Ent → Option R) : Option R :=
  match aevals E args with
  | some [.int kd a, .int kd' b] => bif decide (kd = kd') then
      (bif isMax then k ⟨.int kd (bif decide (b > a) then b else a), [], 0, []⟩ else k ⟨.int kd (bif decide (b < a) then b else a), [], 0, []⟩) else none
  | _ => pureE P o E k
end

theorem CRel.getV {κ : Kap} : ∀ {c : List AV} {zs : List Value} {i : Nat} {v : AV}, CRel κ c zs → c.all (fun x => !isArr x) = true → nthA c i = some v → ∃ u, zs[i]? = some u ∧ VRel κ v u
  | [], zs, i, v, _, _, h => by simp [nthA] at h
  | x :: xs, zs, i, v, r, ha, h => by
    simp only [List.all_cons, Bool.and_eq_true, Bool.not_eq_true'] at ha
    obtain ⟨y, ys, rfl, h1, h2⟩ := r.head ha.1
    simp only [nthA] at h
    cases hi : Nat.beq i 0 with
    | true =>
      rw [hi] at h
      simp only [cond_true, Option.some.injEq] at h; subst h
      have := Nat.eq_of_beq_eq_true hi; subst this
      exact ⟨y, rfl, h1⟩
    | false =>
      rw [hi] at h
      have hi0 : i ≠ 0 := fun e => by subst e; simp at hi
      obtain ⟨u, h3, h4⟩ := CRel.getV (i := i - 1) h2 ha.2 h
      refine ⟨u, ?_, h4⟩
      obtain ⟨j, rfl⟩ : ∃ j, i = j + 1 := ⟨i - 1, by omega⟩
      simpa using h3
/-- Values, one by one. -/
theorem CRel.map_len {κ : Kap} {c : List AV} {zs : List Value} (r : CRel κ c zs) (ha : c.all (fun x => !isArr x) = true) : zs.length = c.length := by
  rw [r.length]
  clear r
  induction c with
  | nil => rfl
  | cons x xs ih =>
    simp only [List.all_cons, Bool.and_eq_true, Bool.not_eq_true'] at ha
    have : width x = 1 := by cases x <;> first | rfl | (simp [isArr] at ha; done)
    simp only [cw, this, ih ha.2, List.length_cons]; omega

theorem moveE_ok {R : Type} {o : Oper} {x : Operand} (ho : o.op = .move x ∨ o.op = .assign x) {E : Env} {k : Ent → Option R} {r : R} (h : moveE x E k = some r) :
    ∃ v, k ⟨v, [], 0, []⟩ = some r ∧ ∀ m, StillOk P o E m v [] := by
  unfold moveE at h
  split at h
  · rename_i v hx
    refine ⟨v, h, fun m κ a w M hA hR _ => ⟨a.eval x, hA x (by rcases ho with ho | ho <;> rw [ho] <;> simp [Op.operands]) _ hx, ?_⟩⟩
    rcases ho with ho | ho <;> (simp only [execOp, ho]; rfl)
  · cases h
theorem bool_of {κ : Kap} {b : Bool} {y : Value} (h : VRel κ (.bool b) y) : y = .bool b := by cases h; rfl
theorem pickE_ok {R : Type} {o : Oper} {c x y : Operand} (ho : o.op = .pick c x y) {E : Env} {k : Ent → Option R} {r : R} (h : pickE c x y E k = some r) :
    ∃ v, k ⟨v, [], 0, []⟩ = some r ∧ ∀ m, StillOk P o E m v [] := by
  have hmc : c ∈ o.op.operands := by rw [ho]; simp [Op.operands]
  have hmx : x ∈ o.op.operands := by rw [ho]; simp [Op.operands]
  have hmy : y ∈ o.op.operands := by rw [ho]; simp [Op.operands]
  unfold pickE at h
  split at h
  · rename_i b hc
    have key : ∀ (v u : AV), aeval E x = some v → aeval E y = some u → ∀ m, StillOk P o E m (if b then v else u) [] := by
      intro v u hx hy m κ a w M hA hR _
      have hb := bool_of (hA c hmc _ hc)
      refine ⟨if b then a.eval x else a.eval y, ?_, ?_⟩
      · cases b
        · exact hA y hmy _ hy
        · exact hA x hmx _ hx
      · simp only [execOp, ho, hb]
        refine (run_bind_ok (e := asBool (.bool b)) (a := b) (w' := w) rfl).trans ?_
        cases b <;> rfl
    split at h
    · rename_i v hx
      split at h
      · rename_i u hy
        split at h
        · rename_i v'
          refine ⟨_, h, ?_⟩
          have := key _ _ hx hy
          cases b <;> exact this
        · cases b
          · exact ⟨_, h, by have := key _ _ hx hy; simpa using this⟩
          · exact ⟨_, h, by have := key _ _ hx hy; simpa using this⟩
      · rename_i u hne hy
        cases b
        · exact ⟨_, h, by have := key _ _ hx hy; simpa using this⟩
        · exact ⟨_, h, by have := key _ _ hx hy; simpa using this⟩
      · cases h
    · cases h
  · cases h
theorem extractE_ok {R : Type} {o : Oper} {x : Operand} {i : Nat} (ho : o.op = .extract x i) {E : Env} {k : Ent → Option R} {r : R} (h : extractE x i E k = some r) :
    ∃ v, k ⟨v, [], 0, []⟩ = some r ∧ ∀ m, StillOk P o E m v [] := by
  unfold extractE at h
  split at h
  · rename_i c hx
    obtain ⟨ha, h⟩ := cond_some h
    split at h
    · rename_i v hn
      refine ⟨v, h, fun m κ a w M hA hR _ => ?_⟩
      have hp := hA x (by rw [ho]; simp [Op.operands]) _ hx
      generalize hea : a.eval x = ev at hp
      cases hp with
      | tup _ zs h1 _ =>
        obtain ⟨u, hu, hv⟩ := h1.getV ha hn
        refine ⟨u, hv, ?_⟩
        simp only [execOp, ho]
        refine run_value ?_
        have : (⟨zs⟩ : Array Value)[i]? = some u := by simpa using hu
        simp only [Instr.extract, hea, this]; rfl
    · cases h
  · cases h
theorem nilCheckE_ok {R : Type} {o : Oper} {x : Operand} (ho : o.op = .nilCheck x) {E : Env} {k : Ent → Option R} {r : R} (h : nilCheckE P o x E k = some r) :
    ∃ v, k ⟨v, [], 0, []⟩ = some r ∧ ∀ m, StillOk P o E m v [] := by
  have hmx : x ∈ o.op.operands := by rw [ho]; simp [Op.operands]
  unfold nilCheckE at h
  split at h
  · rename_i n p i hx
    refine ⟨_, h, fun m κ a w M hA hR _ => ⟨a.eval x, hA x hmx _ hx, ?_⟩⟩
    have hp := hA x hmx _ hx
    simp only [execOp, ho]
    generalize a.eval x = ev at hp
    cases hp; rfl
  · rename_i c i hx
    refine ⟨_, h, fun m κ a w M hA hR _ => ⟨a.eval x, hA x hmx _ hx, ?_⟩⟩
    have hp := hA x hmx _ hx
    simp only [execOp, ho]
    generalize a.eval x = ev at hp
    cases hp; rfl
  · rename_i f p q hx
    refine ⟨_, h, fun m κ a w M hA hR _ => ⟨a.eval x, hA x hmx _ hx, ?_⟩⟩
    have hp := hA x hmx _ hx
    simp only [execOp, ho]
    generalize a.eval x = ev at hp
    cases hp; rfl
  · rename_i t v hx
    refine ⟨_, h, fun m κ a w M hA hR _ => ⟨a.eval x, hA x hmx _ hx, ?_⟩⟩
    have hp := hA x hmx _ hx
    simp only [execOp, ho]
    generalize a.eval x = ev at hp
    cases hp; rfl
  · exact pureE_ok h
theorem makeInterfaceE_ok {R : Type} {o : Oper} {t : TypeId} {x : Operand} (ho : o.op = .makeInterface t x) {E : Env} {k : Ent → Option R} {r : R} (h : makeInterfaceE P t x E k = some r) :
    ∃ v, k ⟨v, [], 0, []⟩ = some r ∧ ∀ m, StillOk P o E m v [] := by
  unfold makeInterfaceE at h
  split at h
  · cases h
  · rename_i d hni hd
    split at h
    · rename_i v hx
      obtain ⟨ha, h⟩ := cond_some' h
      refine ⟨_, h, fun m κ a w M hA hR _ => ⟨_, .ifc t v _ (hA x (by rw [ho]; simp [Op.operands]) _ hx) .nil, ?_⟩⟩
      simp only [execOp, ho]
      refine run_value ?_
      unfold Instr.makeInterface
      refine (run_q hd).trans ?_
      cases d <;> first | rfl | (exact absurd rfl (hni _))
    · cases h
  · cases h
theorem makeFuncE_ok {R : Type} {o : Oper} {fn : Fn} {first captured : Array Operand} (ho : o.op = .makeFunc fn first captured) {E : Env} {k : Ent → Option R} {r : R} (h : makeFuncE fn first captured E k = some r) :
    ∃ v, k ⟨v, [], 0, []⟩ = some r ∧ ∀ m, StillOk P o E m v [] := by
  unfold makeFuncE at h
  split at h
  · rename_i f
    split at h
    · rename_i a ha
      split at h
      · rename_i b hb
        obtain ⟨_, h⟩ := cond_some h
        refine ⟨_, h, fun m κ a' w M hA hR _ => ?_⟩
        have r1 := aevals_ok first.toList a (fun x hx v hv => hA x (by rw [ho]; simp only [Op.operands]; simp at hx; simp [hx]) v hv) ha
        have r2 := aevals_ok captured.toList b (fun x hx v hv => hA x (by rw [ho]; simp only [Op.operands]; simp at hx; simp [hx]) v hv) hb
        refine ⟨_, .fn f a b _ _ r1 r2 .nil, ?_⟩
        simp only [execOp, ho]
        refine run_value ?_
        have e1 : (⟨first.toList.map a'.eval⟩ : Array Value) = first.map a'.eval := by apply Array.ext'; simp
        have e2 : (⟨captured.toList.map a'.eval⟩ : Array Value) = captured.map a'.eval := by apply Array.ext'; simp
        rw [e1, e2]; rfl
      · cases h
    · cases h
  · cases h
theorem lenRun {o : Oper} {c : Call} {x : Operand} (ho : o.op = .call c) (hc : c.callee = .builtin .len) (hx0 : c.args.toList = [x]) {t : TypeId} (ht0 : c.argTypes.toList = [t]) {a : Act} {w : World} {v : Value}
    (h : (Builtin.len_ #[t] o.type #[a.eval x]).run P w = .ok v w) : (execOp a.eval o).run P w = .ok (.value v) w := by
  have e1 : c.args = #[x] := by apply Array.ext'; simpa using hx0
  have e2 : c.argTypes = #[t] := by apply Array.ext'; simpa using ht0
  simp only [execOp, ho]
  unfold resolve
  rw [hc, e1, e2]
  refine (run_bind_ok (a := ⟨.builtin .len #[t] o.type _, #[a.eval x]⟩) (w' := w) (by simp; rfl)).trans ?_
  unfold invoke builtin
  exact run_value h
theorem lenE_ok {R : Type} {o : Oper} {c : Call} {x : Operand} (ho : o.op = .call c) (hc : c.callee = .builtin .len) (hx0 : c.args.toList = [x]) {t : TypeId} (ht0 : c.argTypes.toList = [t]) {E : Env} {k : Ent → Option R} {r : R} (h : lenE P o t x E k = some r) :
    ∃ v, k ⟨v, [], 0, []⟩ = some r ∧ ∀ m, StillOk P o E m v [] := by
  have e1 : c.args = #[x] := by apply Array.ext'; simpa using hx0
  have hmx : x ∈ o.op.operands := by rw [ho]; simp [Op.operands, Call.operands, hc, e1]
  have key : ∀ {v : AV} {v' : Value}, k ⟨v, [], 0, []⟩ = some r → (∀ κ, VRel κ v v') → (∀ (κ : Kap) (a : Act) (w : World), AOn κ o E a → (Builtin.len_ #[t] o.type #[a.eval x]).run P w = .ok v' w) → ∃ v, k ⟨v, [], 0, []⟩ = some r ∧ ∀ m, StillOk P o E m v [] :=
    fun hk hv hrun => ⟨_, hk, fun m κ a w M hA hR _ => ⟨_, hv κ, lenRun ho hc hx0 ht0 (hrun κ a w hA)⟩⟩
  unfold lenE at h
  split at h
  · rename_i n p o' i W len cap hx
    split at h
    · rename_i e hu
      refine key h (fun κ => .int _ _ .nil) fun κ a w hA => ?_
      have hp := hA x hmx _ hx
      generalize a.eval x = ev at hp
      unfold Builtin.len_
      refine (run_q hu).trans ?_
      cases hp <;> rfl
    · cases h
  · rename_i W f len us hx
    split at h
    · rename_i e hu
      refine key h (fun κ => .int _ _ .nil) fun κ a w hA => ?_
      have hp := hA x hmx _ hx
      generalize a.eval x = ev at hp
      unfold Builtin.len_
      refine (run_q hu).trans ?_
      cases hp <;> rfl
    · cases h
  · rename_i l hx
    split at h
    · rename_i hu
      refine key h (fun κ => .int _ _ .nil) fun κ a w hA => ?_
      have hp := hA x hmx _ hx
      generalize a.eval x = ev at hp
      unfold Builtin.len_
      refine (run_q hu).trans ?_
      cases hp with
      | str _ _ => simp only [ByteArray.size]; rfl
    · cases h
  · cases h
  · split at h
    · rename_i n e hu
      refine key h (fun κ => .int _ _ .nil) fun κ a w hA => ?_
      generalize a.eval x = ev
      unfold Builtin.len_
      refine (run_q hu).trans ?_
      cases ev <;> rfl
    · exact pureE_ok h
  · cases h
theorem minE_ok {R : Type} {o : Oper} {c : Call} {isMax : Bool} (ho : o.op = .call c) (hc : c.callee = .builtin (if isMax then .max else .min)) {E : Env} {k : Ent → Option R} {r : R} (h : minE P o isMax c.args.toList E k = some r) :
    ∃ v, k ⟨v, [], 0, []⟩ = some r ∧ ∀ m, StillOk P o E m v [] := by
  unfold minE at h
  split at h
  · rename_i kd a kd' b hx
    obtain ⟨hk, g⟩ := cond_some h
    clear h
    have hk := of_decide_eq_true hk
    subst hk
    have h := g
    clear g
    have hargs : ∀ (κ : Kap) (a' : Act), AOn κ o E a' → c.args.map a'.eval = #[.int kd a, .int kd b] := by
      intro κ a' hA
      have := aevals_ok c.args.toList _ (fun x hx v hv => hA x (by rw [ho]; simp only [Op.operands, Call.operands]; simp at hx; simp [hx]) v hv) hx
      apply Array.ext'
      rw [Array.toList_map]
      generalize c.args.toList.map a'.eval = l at this
      cases this with
      | int _ _ h2 => cases h2 with | int _ _ h3 => cases h3; rfl
    have run : ∀ (κ : Kap) (a' : Act) (w : World) (n : Int), AOn κ o E a' → (if isMax then (Builtin.max_ c.argTypes o.type #[.int kd a, .int kd b]) else (Builtin.min_ c.argTypes o.type #[.int kd a, .int kd b])).run P w = .ok (.int kd n) w →
        (execOp a'.eval o).run P w = .ok (.value (.int kd n)) w := by
      intro κ a' w n hA hr
      simp only [execOp, ho]
      unfold resolve
      rw [hc]
      cases isMax
      · refine (run_bind_ok (a := ⟨.builtin .min c.argTypes o.type _, #[.int kd a, .int kd b]⟩) (w' := w) (by rw [hargs κ a' hA]; rfl)).trans ?_
        unfold invoke builtin
        exact run_value hr
      · refine (run_bind_ok (a := ⟨.builtin .max c.argTypes o.type _, #[.int kd a, .int kd b]⟩) (w' := w) (by rw [hargs κ a' hA]; rfl)).trans ?_
        unfold invoke builtin
        exact run_value hr
    cases isMax
    · refine ⟨_, h, fun m κ a' w M hA hR _ => ⟨_, .int _ _ .nil, run κ a' w _ hA ?_⟩⟩
      simp only [Bool.false_eq_true, if_false]
      unfold Builtin.min_
      simp only [List.foldlM]
      refine (run_bind_ok (e := Builtin.min2 (.int kd a) (.int kd b)) (a := .int kd (bif decide (b < a) then b else a)) (w' := w) ?_).trans rfl
      simp only [Builtin.min2]
      by_cases hab : b < a
      · simp only [hab, if_true, decide_true, cond_true]; rfl
      · simp only [hab, if_false, decide_false, cond_false]; rfl
    · refine ⟨_, h, fun m κ a' w M hA hR _ => ⟨_, .int _ _ .nil, run κ a' w _ hA ?_⟩⟩
      simp only [if_true]
      unfold Builtin.max_
      simp only [List.foldlM]
      refine (run_bind_ok (e := Builtin.max2 (.int kd a) (.int kd b)) (a := .int kd (bif decide (b > a) then b else a)) (w' := w) ?_).trans rfl
      simp only [Builtin.max2]
      by_cases hab : b > a
      · simp only [hab, if_true, decide_true, cond_true]; rfl
      · simp only [hab, if_false, decide_false, cond_false]; rfl
  · exact pureE_ok h
end
end Go.Sv
namespace Go.Sv
noncomputable section
open Go.RowKit
variable {P : Program}

/-! ### lists of elements -/
theorem arr_parts {κ : Kap} {w n : Nat} {f : Nat → List AV} {us : List (Nat × List AV)} {zs : List Value} : CRel κ [.arr w n f us] zs ↔
    zs.length = n * w ∧ (∀ z ∈ zs, oneV z = true) ∧ (∀ i, i < n → cw (elt us f i) = w) ∧ (∀ i, i < n → CRel κ.nl (elt us f i) ((zs.drop (i * w)).take w)) := by
  constructor
  · intro h
    cases h with
    | arr _ _ _ _ zc b1 bo b2 b3 b4 b5 =>
      cases b5
      rw [List.append_nil] at b4
      subst b4
      exact ⟨b1, bo, b2, b3⟩
  · rintro ⟨b1, bo, b2, b3⟩
    exact .arr w n f us zs b1 bo b2 b3 (by simp) .nil
theorem arr_take {κ : Kap} {w n m : Nat} {f : Nat → List AV} {us : List (Nat × List AV)} {zs : List Value} (h : CRel κ [.arr w n f us] zs) (hm : m ≤ n) : CRel κ [.arr w m f us] (zs.take (m * w)) := by
  obtain ⟨b1, bo, b2, b3⟩ := arr_parts.1 h
  have hle : m * w ≤ n * w := Nat.mul_le_mul_right w hm
  refine arr_parts.2 ⟨by simp; omega, fun z hz => bo z (List.mem_of_mem_take hz), fun i hi => b2 i (by omega), fun i hi => ?_⟩
  have hle2 : i * w + w ≤ m * w := by
    have := Nat.mul_le_mul_right w (Nat.succ_le_of_lt hi)
    rw [Nat.succ_mul] at this; exact this
  rw [List.drop_take, List.take_take, Nat.min_eq_left (by omega)]
  exact b3 i (by omega)
theorem arr_drop {κ : Kap} {w n a : Nat} {f : Nat → List AV} {us : List (Nat × List AV)} {zs : List Value} (h : CRel κ [.arr w n f us] zs) (ha : a ≤ n) : CRel κ [.arr w (n - a) (fun j => elt us f (a + j)) []] (zs.drop (a * w)) := by
  obtain ⟨b1, bo, b2, b3⟩ := arr_parts.1 h
  refine arr_parts.2 ⟨by rw [List.length_drop, b1, Nat.sub_mul], fun z hz => bo z (List.mem_of_mem_drop hz), fun i hi => b2 (a + i) (by omega), fun i hi => ?_⟩
  have := b3 (a + i) (by omega)
  rw [List.drop_drop, ← Nat.add_mul]
  exact this
theorem arr_ext {κ : Kap} {w n : Nat} {f g : Nat → List AV} {us vs : List (Nat × List AV)} {zs : List Value} (h : CRel κ [.arr w n f us] zs) (he : ∀ i, i < n → elt vs g i = elt us f i) : CRel κ [.arr w n g vs] zs := by
  obtain ⟨b1, bo, b2, b3⟩ := arr_parts.1 h
  exact arr_parts.2 ⟨b1, bo, fun i hi => by rw [he i hi]; exact b2 i hi, fun i hi => by rw [he i hi]; exact b3 i hi⟩
def catF (n : Nat) (us : List (Nat × List AV)) (f : Nat → List AV) (vs : List (Nat × List AV)) (g : Nat → List AV) : Nat → List AV := fun j => bif Nat.blt j n then elt us f j else elt vs g (j - n)
theorem arr_cat {κ : Kap} {w n m : Nat} {f g : Nat → List AV} {us vs : List (Nat × List AV)} {zs ys : List Value} (h : CRel κ [.arr w n f us] zs) (k : CRel κ [.arr w m g vs] ys) :
    CRel κ [.arr w (n + m) (catF n us f vs g) []] (zs ++ ys) := by
  obtain ⟨b1, bo, b2, b3⟩ := arr_parts.1 h
  obtain ⟨c1, co, c2, c3⟩ := arr_parts.1 k
  have hcat : ∀ i, catF n us f vs g i = if i < n then elt us f i else elt vs g (i - n) := by
    intro i
    unfold catF
    by_cases hi : i < n
    · rw [if_pos hi]
      have : Nat.blt i n = true := by rw [Nat.blt_eq]; exact hi
      rw [this]; rfl
    · rw [if_neg hi]
      cases hb : Nat.blt i n
      · rfl
      · rw [Nat.blt_eq] at hb; exact absurd hb hi
  refine arr_parts.2 ⟨by rw [List.length_append, b1, c1, Nat.add_mul], fun z hz => ?_, fun i hi => ?_, fun i hi => ?_⟩
  · rcases List.mem_append.1 hz with h | h
    · exact bo z h
    · exact co z h
  · simp only [elt, hcat]
    split
    · exact b2 i (by assumption)
    · exact c2 _ (by omega)
  · simp only [elt, hcat]
    split
    · rename_i hlt
      have hle2 : i * w + w ≤ n * w := by
        have := Nat.mul_le_mul_right w (Nat.succ_le_of_lt hlt)
        rw [Nat.succ_mul] at this; exact this
      rw [List.drop_append_of_le_length (by omega), List.take_append_of_le_length (by simp; omega)]
      exact b3 i hlt
    · rename_i hge
      have e : (zs ++ ys).drop (i * w) = ys.drop ((i - n) * w) := by
        rw [List.drop_append, b1]
        have hle2 : n * w ≤ i * w := Nat.mul_le_mul_right w (Nat.le_of_not_lt hge)
        rw [List.drop_of_length_le (by omega), List.nil_append, Nat.sub_mul]
      rw [e]
      exact c3 _ (by omega)
theorem arr_snoc {κ : Kap} {w n : Nat} {f : Nat → List AV} {us : List (Nat × List AV)} {c : List AV} {zs ys : List Value} (h : CRel κ [.arr w n f us] zs) (hc : CRel κ.nl c ys) (hw : cw c = w) (ho : ∀ y ∈ ys, oneV y = true) :
    CRel κ [.arr w (n + 1) f ((n, c) :: us)] (zs ++ ys) := by
  have hl := hc.length
  have h1 : CRel κ [.arr w 1 (fun _ => c) []] ys := arr_parts.2 ⟨by omega, ho, fun i _ => hw, fun i hi => by
    have : i = 0 := by omega
    subst this
    rw [Nat.zero_mul, List.drop_zero, List.take_of_length_le (by omega)]; exact hc⟩
  refine arr_ext (arr_cat h h1) fun i hi => ?_
  simp only [elt, catF]
  by_cases e : i = n
  · subst e
    rw [Nat.beq_refl, cond_true]
    have : Nat.blt i i = false := by
      cases hb : Nat.blt i i
      · rfl
      · rw [Nat.blt_eq] at hb; omega
    rw [this]; rfl
  · rw [beq_false e, cond_false]
    have : Nat.blt i n = true := by rw [Nat.blt_eq]; omega
    rw [this]; rfl
theorem arr_none {κ : Kap} {w : Nat} {f : Nat → List AV} {us : List (Nat × List AV)} : CRel κ [.arr w 0 f us] [] := arr_parts.2 ⟨by simp, by simp, fun i hi => by omega, fun i hi => by omega⟩

/-! ### what is appended -/
section
variable {R : Type}
/-- A list's elements: how wide, from which function and settings on, how many; and the rows looked at. -/
def srcK (m : List (Nat × Row)) (x : AV) (k : Nat → (Nat → List AV) → List (Nat × List AV) → Nat → List Nat → Option R) : Option R :=
  match x with
  | .lst w f len us => k w f us len []
  | .raw (.slice none 0 0) => k 0 (fun _ => []) [] 0 []
  | .raw (.slice (some _) 0 _) => k 0 (fun _ => []) [] 0 []
  | .str l => k 1 (fun i => [.int .u8 ((l.getD i 0).toNat : Int)]) [] l.length []
  | .slc n [] o i w len _ => match find m n with
    | some (.cells c _ _) => match dropW c o with
      | some (.arr w' N f us :: _) => bif Nat.beq w w' then bif Nat.ble (add0 i len) N then
          (bif Nat.beq i 0 then k w f us len [n] else k w (fun j => elt us f (i + j)) [] len [n]) else none else none
      | _ => none
    | _ => none
  | _ => none
end
/-- What that says. -/
def SrcOk (κ : Kap) (w : World) (y : Value) (W : Nat) (f : Nat → List AV) (us : List (Nat × List AV)) (len : Nat) : Prop :=
  ∃ news, CRel κ [.arr W len f us] news ∧ ((∃ a c b off, y = .slice (some a) len c ∧ (len = 0 ∨ (a = ⟨b, off, none⟩ ∧ ∃ cs e fr, w.heap[b]? = some (.cells cs e fr) ∧ off + len * W ≤ cs.size ∧ news = (cs.toList.drop off).take (len * W)))) ∨
    (∃ c, y = .slice none 0 c ∧ len = 0) ∨ (∃ l : List UInt8, y = .string ⟨l.toArray⟩ ∧ W = 1 ∧ len = l.length ∧ news = byteCells ⟨l.toArray⟩))

theorem srcK_ok {R : Type} {m : List (Nat × Row)} {x : AV} {k : Nat → (Nat → List AV) → List (Nat × List AV) → Nat → List Nat → Option R} {r : R} (h : srcK m x k = some r) :
    ∃ W f us len rd, k W f us len rd = some r ∧ ∀ (κ : Kap) (w : World) (M : Mem) (y : Value), MRel κ M w → (∀ n ∈ rd, M n = find m n) → VRel κ x y → SrcOk κ w y W f us len := by
  unfold srcK at h
  split at h
  · rename_i W f len us
    refine ⟨W, f, us, len, [], h, fun κ w M y hR _ hv => ?_⟩
    cases hv with
    | lst _ _ b off cap _ _ cs h1 h2 h3 ho h4 h5 _ =>
      obtain ⟨rest, e, fr, hb⟩ := hR.stable b cs h1
      by_cases hl : len = 0
      · subst hl; exact ⟨[], arr_none, .inl ⟨_, cap, b, off, rfl, .inl rfl⟩⟩
      refine ⟨(cs.drop off).take (len * W), ?_, .inl ⟨_, cap, b, off, rfl, .inr ⟨rfl, _, e, fr, hb, by simp; omega, ?_⟩⟩⟩
      · refine arr_parts.2 ⟨by simp; omega, ho, h4, fun i hi => ?_⟩
        · have hle2 : i * W + W ≤ len * W := by
            have := Nat.mul_le_mul_right W (Nat.succ_le_of_lt hi)
            rw [Nat.succ_mul] at this; exact this
          rw [List.drop_take, List.take_take, Nat.min_eq_left (by omega), List.drop_drop]
          exact h5 i hi
      · simp only [List.drop_append_of_le_length (show off ≤ cs.length by omega)]
        rw [List.take_append_of_le_length (by simp; omega)]
    | lst0 _ cap _ _ a _ =>
      refine ⟨[], arr_none, ?_⟩
      cases a with
      | none => exact .inr (.inl ⟨cap, rfl, rfl⟩)
      | some a => exact .inl ⟨a, cap, 0, 0, rfl, .inl rfl⟩
  · refine ⟨_, _, _, _, _, h, fun κ w M y hR _ hv => ?_⟩
    cases hv with
    | raw _ _ => exact ⟨[], arr_none, .inr (.inl ⟨0, rfl, rfl⟩)⟩
  · refine ⟨_, _, _, _, _, h, fun κ w M y hR _ hv => ?_⟩
    cases hv with
    | raw _ _ => exact ⟨[], arr_none, .inl ⟨_, _, 0, 0, rfl, .inl rfl⟩⟩
  · rename_i l
    refine ⟨_, _, _, _, _, h, fun κ w M y hR _ hv => ?_⟩
    cases hv with
    | str _ _ =>
      refine ⟨byteCells ⟨l.toArray⟩, arr_parts.2 ⟨by simp [byteCells], fun z hz => ?_, fun i hi => rfl, fun i hi => ?_⟩, .inr (.inr ⟨l, rfl, rfl, rfl, rfl⟩)⟩
      · obtain ⟨b, _, rfl⟩ := List.mem_map.1 hz; rfl
      · have : (((byteCells ⟨l.toArray⟩).drop (i * 1)).take 1) = [Value.int .u8 ((l.getD i 0).toNat : Int)] := by
          have hlt : i * 1 < (byteCells ⟨l.toArray⟩).length := by simp [byteCells]; omega
          rw [List.drop_eq_getElem_cons hlt, List.take_succ_cons, List.take_zero]
          simp [byteCells, List.getD_eq_getElem?_getD, hi]
        rw [this]; exact .int _ _ .nil
  · rename_i n o i W len cap
    split at h
    · rename_i c own tip hf
      split at h
      · rename_i w' N f us rest hd
        obtain ⟨hw, g1⟩ := cond_some h; clear h
        obtain ⟨hb, h⟩ := cond_some g1; clear g1
        have hw := Nat.eq_of_beq_eq_true hw
        subst hw
        have hb := Nat.le_of_ble_eq_true hb
        rw [add0_eq] at hb
        have key : ∀ (g : Nat → List AV) (us' : List (Nat × List AV)), (∀ j, elt us' g j = elt us f (i + j)) →
            ∀ (κ : Kap) (w0 : World) (M : Mem) (y : Value), MRel κ M w0 → (∀ n' ∈ [n], M n' = find m n') → VRel κ (.slc n [] o i W len cap) y → SrcOk κ w0 y W g us' len := by
          intro g us' hg κ w0 M y hR hM hv
          have hrow : M n = some (.cells c own tip) := by rw [hM n (List.mem_singleton.2 rfl)]; exact hf
          cases hv with
          | slc _ _ _ _ _ _ _ b cap' a h1 h2 h3 h4 hn =>
            by_cases hl : len = 0
            · subst hl; exact ⟨[], arr_none, .inl ⟨a, cap', b, 0, rfl, .inl rfl⟩⟩
            · obtain ⟨ha, s, hs1, hs2⟩ := h2.resolve_left (by omega)
              rcases hR.row n _ hrow with ⟨g1, _⟩ | ⟨b', zs, rst, e, fr, g1, g2, g3, g4, g5, g6, g7⟩
              · rw [h1] at g1; cases g1
              · rw [h1] at g1; cases g1
                obtain ⟨a1, a2⟩ := g3.dropW hd
                obtain ⟨c1, c2, c3, c4⟩ := a1.arr_inv
                have c0 := a1.split_at (xs := [.arr W N f us]) (us := rest)
                have hcw : cw [.arr W N f us] = N * W := by simp [cw, width]
                have harr := (c0.1)
                rw [hcw] at harr
                have := arr_take (arr_drop harr (a := i) (by omega)) (m := len) (by omega)
                have hoff : plen [] + o + i * W = o + i * W := by simp [plen]
                simp only [List.length_drop] at c1
                have hle : (i + len) * W ≤ N * W := Nat.mul_le_mul_right W hb
                rw [Nat.add_mul] at hle
                refine ⟨_, arr_ext this fun j hj => by rw [hg]; rfl, .inl ⟨a, cap', b, o + i * W, rfl, .inr ⟨by rw [ha, hoff], _, e, fr, g2, by simp; omega, ?_⟩⟩⟩
                rw [List.drop_take, List.take_take, List.drop_drop, Nat.min_eq_left (by omega)]
                simp only [List.drop_append_of_le_length (show o + i * W ≤ zs.length by omega)]
                rw [List.take_append_of_le_length (by simp; omega)]
          | slc0 _ _ _ _ _ h1 hn => exact ⟨[], arr_none, .inr (.inl ⟨0, rfl, rfl⟩)⟩
        cases hi : Nat.beq i 0 <;> rw [hi] at h
        · exact ⟨_, _, _, _, _, h, key _ [] fun j => rfl⟩
        · have := Nat.eq_of_beq_eq_true hi
          subst this
          exact ⟨_, _, _, _, _, h, key f us fun j => by rw [Nat.zero_add]⟩
      · cases h
    · cases h
  · cases h
end
end Go.Sv
namespace Go.Sv
noncomputable section
open Go.RowKit
variable {P : Program}

def LIM : Nat := 140737488355328
def kindOk (P : Program) (tx : TypeId) (v : AV) : Bool :=
  match P.underlying tx with
  | some (.slice _) => match v with
    | .slc _ _ _ _ _ _ _ => true
    | .lst _ _ _ _ => true
    | .raw (.slice none 0 0) => true
    | .raw (.slice (some _) 0 _) => true
    | _ => false
  | some .string => match v with
    | .str _ => true
    | _ => false
  | _ => false
section
variable {R : Type} (P)
def appendE (t tx : TypeId) (x y : Operand) (E : Env) (st : AS) (k : Ent → Option R) : Option R :=
  match P.underlying t with
  | some (.slice e) => match P.info? e with
    | some i => match i.zero with
      | some _ => match zeroT P e with
       | some zc => bif Nat.ble 1 i.bytes && (Nat.ble 1 i.size && Nat.beq (cw zc) i.size) then
        match aeval E y with
        | some yv => bif kindOk P tx yv then srcK st.mem yv fun W f us cnt rd => bif Nat.beq W i.size || Nat.beq cnt 0 then
            match aeval E x with
            | some (.raw (.slice none 0 0)) => bif Nat.ble (cnt * i.bytes) LIM then
                k ⟨.slc st.next [] 0 0 i.size cnt cnt, [(st.next, some (.cells [.arr i.size cnt f us] true true))], 1, rd⟩ else none
            | some (.slc n [] 0 0 w len _) => match find st.mem n with
              | some (.cells [.arr w' N f0 us0] true _) => bif Nat.beq w i.size && Nat.beq w' i.size then bif Nat.ble len N then bif Nat.ble ((len + cnt) * i.bytes) LIM then
                  match us with
                  | [(j, c)] => bif Nat.beq j 0 && Nat.beq cnt 1 then
                      k ⟨.slc st.next [] 0 0 i.size (len + 1) (len + 1), [(n, none), (st.next, some (.cells [.arr i.size (len + 1) f0 ((len, c) :: us0)] true true))], 1, n :: rd⟩
                      else k ⟨.slc st.next [] 0 0 i.size (len + cnt) (len + cnt), [(n, none), (st.next, some (.cells [.arr i.size (len + cnt) (catF len us0 f0 us f) []] true true))], 1, n :: rd⟩
                  | _ => k ⟨.slc st.next [] 0 0 i.size (len + cnt) (len + cnt), [(n, none), (st.next, some (.cells [.arr i.size (len + cnt) (catF len us0 f0 us f) []] true true))], 1, n :: rd⟩
                else none else none else none
              | _ => none
            | _ => none
          else none else none
        | none => none
        else none
       | none => none
      | none => none
    | none => none
  | _ => none
end

theorem oneCell_of {v : Value} (h : oneV v = true) : v.oneCell' = true := by cases v <;> first | rfl | (simp [oneV] at h; done)
theorem callRun2 {o : Oper} {c : Call} {b : Builtin} (ho : o.op = .call c) (hc : c.callee = .builtin b) {x y : Operand} (hx0 : c.args.toList = [x, y]) {t tx : TypeId} (ht0 : c.argTypes.toList = [t, tx]) {a : Act} {w w' : World} {v : Value}
    (h : ∀ consts, (builtin b #[t, tx] o.type consts #[a.eval x, a.eval y]).run P w = .ok (.value v) w') : (execOp a.eval o).run P w = .ok (.value v) w' := by
  have e1 : c.args = #[x, y] := by apply Array.ext'; simpa using hx0
  have e2 : c.argTypes = #[t, tx] := by apply Array.ext'; simpa using ht0
  simp only [execOp, ho]
  unfold resolve
  rw [hc, e1, e2]
  refine (run_bind_ok (a := ⟨.builtin b #[t, tx] o.type _, #[a.eval x, a.eval y]⟩) (w' := w) (by simp; rfl)).trans ?_
  unfold invoke
  exact h _

theorem SrcOk.src {κ : Kap} {w : World} {y : Value} {W : Nat} {f : Nat → List AV} {us : List (Nat × List AV)} {cnt : Nat} (h : SrcOk κ w y W f us cnt) {tx : TypeId} {yv : AV} (hk : kindOk P tx yv = true) (hv : VRel κ yv y) {s : Nat} (hs : W = s ∨ cnt = 0) :
    ∃ news, CRel κ [.arr s cnt f us] news ∧ Src P s tx y cnt news w := by
  obtain ⟨news, hc, h⟩ := h
  have hkind : (∀ l, y ≠ .string l) → ∃ e', P.underlying tx = some (.slice e') := by
    intro hne
    unfold kindOk at hk
    split at hk
    · rename_i e' hu; exact ⟨e', hu⟩
    · split at hk
      · cases hv; exact absurd rfl (hne _)
      · cases hk
    · cases hk
  by_cases h0 : cnt = 0
  · subst h0
    rcases h with ⟨a, c, b, off, rfl, _⟩ | ⟨c, rfl, _⟩ | ⟨l, rfl, hW, hl, _⟩
    · obtain ⟨e', hu⟩ := hkind (fun l h => by cases h)
      exact ⟨[], arr_none, Src.ofSlice w hu a 0 c [] (by simp) (fun j u h => by simp at h) (by simp)⟩
    · obtain ⟨e', hu⟩ := hkind (fun l h => by cases h)
      exact ⟨[], arr_none, Src.ofNil w hu c⟩
    · have hl' : l = [] := by cases l <;> simp at hl ⊢
      subst hl'
      refine ⟨[], arr_none, ?_⟩
      have hu : P.underlying tx = some .string := by
        unfold kindOk at hk
        split at hk
        · split at hk <;> first | (cases hv; done) | (cases hk; done)
        · assumption
        · cases hk
      exact ⟨.inr hu, fun _ => rfl, by simp [Builtin.firstCells], by simp [Builtin.firstCells], by simp, by simp⟩
  · have hW : W = s := hs.resolve_right h0
    subst hW
    refine ⟨news, hc, ?_⟩
    obtain ⟨b1, bo, b2, b3⟩ := arr_parts.1 hc
    rcases h with ⟨a, c, b, off, rfl, h⟩ | ⟨c, rfl, hl⟩ | ⟨l, rfl, rfl, rfl, rfl⟩
    · obtain ⟨rfl, cs, e, fr, hb, hle, hn⟩ := h.resolve_left h0
      obtain ⟨e', hu⟩ := hkind (fun l h => by cases h)
      refine Src.ofSlice w hu _ cnt c news b1 (fun j u hj => ?_) (fun u hu => oneCell_of (bo u hu))
      rw [addr_add, cell_blk hb]
      rw [hn, List.getElem?_take] at hj
      split at hj
      · rw [List.getElem?_drop] at hj; simpa using hj
      · cases hj
    · exact absurd hl h0
    · have hu : P.underlying tx = some .string := by
        unfold kindOk at hk
        split at hk
        · split at hk <;> first | (cases hv; done) | (cases hk; done)
        · assumption
        · cases hk
      have : l.length = (⟨l.toArray⟩ : ByteArray).size := by simp [ByteArray.size]
      rw [this]
      exact Src.ofString w hu ⟨l.toArray⟩

theorem Fr.drew {κ κ' : Kap} {M M' : Mem} {w w' : World} (h : Fr κ M w.drew κ' M' w') : Fr κ M w κ' M' w' := ⟨h.sts, h.os, h.tape, h.output, h.size, h.keep, h.owns⟩

/-- A list that has no room: a new block. -/
theorem grow_ok {t tx ty e : TypeId} {i : TypeInfo} {z : Value} (ht : P.underlying t = some (.slice e)) (hi : P.info? e = some i) (hz : i.zero = some z) (hb1 : 1 ≤ i.bytes) (hzs : z.cells.size = i.size) {base : Option Addr} {len cap' : Nat} {olds : List Value} {w : World}
    (hold : (Builtin.firstCells i.size len (.slice base len cap')).run P w.drew = .ok olds.toArray w.drew) {y : Value} {cnt : Nat} {news : List Value} (hs : Src P i.size tx y cnt news w) (hg : cap' < len + cnt) (hlim : (len + cnt) * i.bytes ≤ LIM)
    {κ : Kap} {M : Mem} (hR : MRel κ M w) {next : Nat} (hn : κ.loc next = none) {c : List AV} (hcw : cw c = (len + cnt) * i.size) (hc : CRel κ c (olds ++ news)) :
    ∃ κ' v' w', (Builtin.append_ #[t, tx] ty #[.slice base len cap', y]).run P w = .ok v' w' ∧ κ.le κ' ∧ (∀ n, n ≠ next → κ'.loc n = κ.loc n) ∧ VRel κ' (.slc next [] 0 0 i.size (len + cnt) (len + cnt)) v' ∧
      MRel κ' (M.set next (some (.cells c true true))) w' ∧ Fr κ M w κ' (M.set next (some (.cells c true true))) w' := by
  have h63 : ((len + cnt : Nat) : Int) ≤ 9223372036854775807 := by
    have : len + cnt ≤ (len + cnt) * i.bytes := Nat.le_mul_of_pos_right _ hb1
    unfold LIM at hlim
    omega
  have hrun := run_append_grow_src w t tx ty e i z ht hi hz base len cap' olds hold y cnt news hs hg h63 (growslice_fits hg hlim)
  have hRd : MRel κ M w.drew := hR.heap rfl
  have e1 : (olds ++ news).toArray ++ Builtin.zeroCells z.cells (grownCap w (len + cnt) cap' e - (len + cnt)) = ((olds ++ news) ++ (Builtin.zeroCells z.cells (grownCap w (len + cnt) cap' e - (len + cnt))).toList).toArray := by
    apply Array.ext'; simp
  rw [e1] at hrun
  obtain ⟨h1, h2, h3, h4⟩ := new_row hRd hn (e := e) (rest := (Builtin.zeroCells z.cells (grownCap w (len + cnt) cap' e - (len + cnt))).toList) (tip := true) hc (fun h => by cases h)
  have hcap := grownCap_ge w (len + cnt) cap' e
  have hl := hc.length
  rw [hcw] at hl
  refine ⟨_, _, _, hrun, h1, fun n hne => Kap.at_ne hne, ?_, h2, h3.drew⟩
  refine .slc _ _ _ _ _ _ _ w.heap.size _ _ h4 (.inr ⟨by simp [plen], (olds ++ news ++ (Builtin.zeroCells z.cells (grownCap w (len + cnt) cap' e - (len + cnt))).toList).length, by simp [Kap.new, Kap.at, Kap.blk], ?_⟩) hcap hcap .nil
  have hzl : (Builtin.zeroCells z.cells (grownCap w (len + cnt) cap' e - (len + cnt))).toList.length = (grownCap w (len + cnt) cap' e - (len + cnt)) * i.size := by simp [Builtin.zeroCells, hzs]
  rw [List.length_append, hl, hzl, ← Nat.add_mul]
  simp only [plen, Nat.zero_mul, Nat.zero_add]
  exact Nat.mul_le_mul_right _ (by omega)

/-- A row of one's own goes on under another name. -/
theorem MRel.rename {κ : Kap} {M : Mem} {w : World} (h : MRel κ M w) {n b next : Nat} {c : List AV} {tip : Bool} (hn : M n = some (.cells c true tip)) (hb : κ.loc n = some (some b)) (hx : κ.loc next = none) :
    MRel (κ.at next (some b)) ((M.set n none).set next (some (.cells c true tip))) w ∧ Fr κ M w (κ.at next (some b)) ((M.set n none).set next (some (.cells c true tip))) w := by
  have hsub : MRel κ (M.set n none) w := h.sub fun m r hm => by
    by_cases e : m = n
    · subst e; rw [Mem.set_same] at hm; cases hm
    · rw [Mem.set_ne _ _ e] at hm; exact hm
  have hrow : RowRel (κ.at next (some b)) w next (.cells c true tip) := by
    rcases h.row n _ hn with ⟨h1, _⟩ | ⟨b', zs, rest, e, fr, h1, h2, h3, h4, h5, h6, h7⟩
    · rw [hb] at h1; cases h1
    · rw [hb] at h1; cases h1
      exact .inr ⟨b, zs, rest, e, fr, Kap.at_same, h2, h3.mono (Kap.at_le hx), h4, h5, h6, h7⟩
  refine ⟨hsub.name hx (fun m r hm hbm => ?_) hrow, (fun _ _ h => .inl h), rfl, rfl, rfl, Nat.le_refl _, fun _ _ _ => rfl, fun b' hb' ho => ?_⟩
  · by_cases e : m = n
    · subst e; rw [Mem.set_same] at hm; cases hm
    · rw [Mem.set_ne _ _ e] at hm
      exact e (h.inj n m _ r b hn hm hb hbm rfl).symm
  · obtain ⟨m, r, h1, h2, h3⟩ := ho
    by_cases e : m = next
    · subst e; rw [Kap.at_same] at h3; cases h3
      exact ⟨n, _, hn, rfl, hb⟩
    · rw [Mem.set_ne _ _ e] at h1; rw [Kap.at_ne e] at h3
      by_cases e2 : m = n
      · subst e2; rw [Mem.set_same] at h1; cases h1
      · rw [Mem.set_ne _ _ e2] at h1; exact ⟨m, r, h1, h2, h3⟩
/-- A row less, and what is left as it was. -/
theorem MRel.drop {κ : Kap} {M : Mem} {w : World} (h : MRel κ M w) (n : Nat) : MRel κ (M.set n none) w ∧ Fr κ M w κ (M.set n none) w := by
  have hs : ∀ m r, (M.set n none) m = some r → M m = some r := fun m r hm => by
    by_cases e : m = n
    · subst e; rw [Mem.set_same] at hm; cases hm
    · rw [Mem.set_ne _ _ e] at hm; exact hm
  exact ⟨h.sub hs, (fun _ _ h => .inl h), rfl, rfl, rfl, Nat.le_refl _, fun _ _ _ => rfl, fun b _ ho => owned.sub hs ho⟩

theorem MRel.rehouse {κ : Kap} {M : Mem} {w : World} (h : MRel κ M w) {n b next : Nat} {c c' : List AV} {tip : Bool} (hn : M n = some (.cells c true tip)) (hb : κ.loc n = some (some b)) (hx : κ.loc next = none) {zs' rest' : List Value} {e o : TypeId} {old : Array Value} {fr : Nat × Nat}
    (hold : w.heap[b]? = some (.cells old o fr)) (hc : CRel κ c' zs') (hst : κ.st b = none) (hsz : κ.sz b = some (zs' ++ rest').length) {fr' : Nat × Nat} (hfr : Thaw fr' (zs' ++ rest').length) :
    MRel (κ.at next (some b)) ((M.set n none).set next (some (.cells c' true true))) (World.putBlk w b (.cells (zs' ++ rest').toArray e fr')) ∧
      Fr κ M w (κ.at next (some b)) ((M.set n none).set next (some (.cells c' true true))) (World.putBlk w b (.cells (zs' ++ rest').toArray e fr')) := by
  have hrow : RowRel κ (World.putBlk w b (.cells (zs' ++ rest').toArray e fr')) n (.cells c' true true) :=
    .inr ⟨b, zs', rest', e, fr', hb, putBlk_same hold, hc, (fun h => by cases h), fun _ => ⟨hfr, hst⟩, (fun h => by cases h), hsz⟩
  obtain ⟨k1, k2⟩ := h.put hn rfl hb hrow
  obtain ⟨k3, k4⟩ := k1.rename (Mem.set_same _ _ _) hb hx
  have e1 : ((M.set n (some (.cells c' true true))).set n none) = M.set n none := funext fun x => by
    by_cases e : x = n
    · subst e; rw [Mem.set_same, Mem.set_same]
    · rw [Mem.set_ne _ _ e, Mem.set_ne _ _ e, Mem.set_ne _ _ e]
  rw [e1] at k3 k4
  exact ⟨k3, k2.trans k4⟩
theorem run_append_here {t tx ty e : TypeId} {i : TypeInfo} (ht : P.underlying t = some (.slice e)) (hi : P.info? e = some i) {w : World} {b len cap' cnt : Nat} {y : Value} {news : List Value} (hs : Src P i.size tx y cnt news w) (hroom : len + cnt ≤ cap')
    {c : Array Value} {e' : TypeId} {fr : Nat × Nat} (hb : w.heap[b]? = some (.cells c e' fr)) (hf : Thaw fr c.size) (hfit : len * i.size + news.length ≤ c.size) (hone : ∀ z ∈ news, oneV z = true) :
    (Builtin.append_ #[t, tx] ty #[.slice (some ⟨b, 0, none⟩) len cap', y]).run P w = .ok (.slice (some ⟨b, 0, none⟩) (len + cnt) cap') (World.putBlk w b (.cells (splice c.toList (len * i.size) news).toArray e' fr)) := by
  have hst := run_storeCells (P := P) (len * i.size) news 0 c w hb hf (by omega) hone
  simp only [Nat.add_zero] at hst
  rcases hs.kind with ⟨e', hk⟩ | hk <;> simp [Builtin.append_, run_underlying ht, run_underlying hk, sizeOf, typeInfo, hi, hs.len, hroom, hs.cells, Addr.add_lit, hst]

/-- Appending to a list that may be nil, without elements. -/
theorem append_nil_ok {t tx ty e : TypeId} {i : TypeInfo} {z : Value} (ht : P.underlying t = some (.slice e)) (hi : P.info? e = some i) (hz : i.zero = some z) (hb1 : 1 ≤ i.bytes) (hzs : z.cells.size = i.size) {w : World}
    {y : Value} {cnt : Nat} {news : List Value} (hs : Src P i.size tx y cnt news w) (hlim : cnt * i.bytes ≤ LIM)
    {κ : Kap} {M : Mem} (hR : MRel κ M w) {next : Nat} (hn : κ.loc next = none) {c : List AV} (hcw : cw c = cnt * i.size) (hc : CRel κ c news) :
    ∃ κ' v' w', (Builtin.append_ #[t, tx] ty #[.slice none 0 0, y]).run P w = .ok v' w' ∧ κ.le κ' ∧ (∀ n, n ≠ next → κ'.loc n = κ.loc n) ∧ VRel κ' (.slc next [] 0 0 i.size cnt cnt) v' ∧
      MRel κ' (M.set next (some (.cells c true true))) w' ∧ Fr κ M w κ' (M.set next (some (.cells c true true))) w' := by
  by_cases h0 : cnt = 0
  · subst h0
    have hnil : news = [] := by have := hs.newsLen; simpa using this
    subst hnil
    obtain ⟨h1, h2⟩ := hR.new0 hn (c := c) (hc.mono (Kap.at_le hn)) true true
    exact ⟨_, _, _, run_append_nothing w t tx ty e i ht hi none 0 0 (Nat.le_refl _) y hs, Kap.at_le hn, fun n hne => Kap.at_ne hne, .slc0 _ _ _ _ _ Kap.at_same .nil, h1, h2⟩
  · have := grow_ok (ty := ty) ht hi hz hb1 hzs (base := none) (len := 0) (cap' := 0) (olds := []) (run_firstCells_none w.drew i.size 0 0 0) hs (by omega) (by simpa using hlim) hR hn (c := c) (by simpa using hcw) (by simpa using hc)
    simpa using this

/-- Appending to a row of one's own. -/
theorem append_own_ok {t tx ty e : TypeId} {i : TypeInfo} {z : Value} (ht : P.underlying t = some (.slice e)) (hi : P.info? e = some i) (hz : i.zero = some z) (hb1 : 1 ≤ i.bytes) (hzs : z.cells.size = i.size) {w : World}
    {y : Value} {cnt : Nat} {news : List Value} (hs : Src P i.size tx y cnt news w) {len cap : Nat} (hlim : (len + cnt) * i.bytes ≤ LIM)
    {κ : Kap} {M : Mem} (hR : MRel κ M w) {n next : Nat} {cR cP c : List AV} {tip : Bool} (hM : M n = some (.cells cR true tip)) (hn : κ.loc next = none)
    {u : Value} (hv : VRel κ (.slc n [] 0 0 i.size len cap) u) (hP : ∀ (κ' : Kap) (zs : List Value), CRel κ' cR zs → len * i.size ≤ zs.length ∧ CRel κ' cP (zs.take (len * i.size))) (hcw : cw c = (len + cnt) * i.size)
    (hc : ∀ (zs : List Value) (κ' : Kap), κ.le κ' → CRel κ' cP zs → CRel κ' c (zs ++ news)) :
    ∃ κ' v' w', (Builtin.append_ #[t, tx] ty #[u, y]).run P w = .ok v' w' ∧ κ.le κ' ∧ (∀ n, n ≠ next → κ'.loc n = κ.loc n) ∧ VRel κ' (.slc next [] 0 0 i.size (len + cnt) (len + cnt)) v' ∧
      MRel κ' ((M.set n none).set next (some (.cells c true true))) w' ∧ Fr κ M w κ' ((M.set n none).set next (some (.cells c true true))) w' := by
  cases hv with
  | slc0 _ _ _ _ _ h1 _ =>
    obtain ⟨k1, k2⟩ := hR.drop n
    have hr0 : CRel κ cR [] := by
      rcases hR.row n _ hM with ⟨_, g⟩ | ⟨b', zs, rest, e', fr, g1, _⟩
      · exact g
      · rw [h1] at g1; cases g1
    have hc0 := hc [] κ (Kap.le_refl κ) (by simpa using (hP κ [] hr0).2)
    obtain ⟨κ', v', w', a1, a2, a3, a4, a5, a6⟩ := append_nil_ok (ty := ty) ht hi hz hb1 hzs hs (by simpa using hlim) k1 hn (c := c) (by simpa using hcw) (by simpa using hc0)
    exact ⟨κ', v', w', a1, a2, a3, by simpa using a4, by simpa using a5, k2.trans (by simpa using a6)⟩
  | slc _ _ _ _ _ _ _ b cap' a h1 h2 h3 h4 _ =>
    rcases hR.row n _ hM with ⟨g1, _⟩ | ⟨b', zs, rest, e', fr, g1, g2, g3, g4, g5, g6, g7⟩
    · rw [h1] at g1; cases g1
    · rw [h1] at g1; cases g1
      obtain ⟨hfr, hst⟩ := g5 rfl
      obtain ⟨hle, hz1⟩ := hP κ zs g3
      have hsz : κ.sz b = some (zs ++ rest).length := g7
      by_cases hroom : len + cnt ≤ cap'
      · have hc0 := hc _ κ (Kap.le_refl κ) hz1
        have hres : ∀ κ', κ.le κ' → κ'.loc next = some (some b) → VRel κ' (.slc next [] 0 0 i.size (len + cnt) (len + cnt)) (.slice (some a) (len + cnt) cap') := fun κ' hle' hl =>
          .slc _ _ _ _ _ _ _ b cap' a hl (h2.imp id fun ⟨e1, s, e2, e3⟩ => ⟨e1, s, hle'.sz _ _ e2, e3⟩) hroom hroom .nil
        by_cases h0 : cnt = 0
        · subst h0
          have hnil : news = [] := by have := hs.newsLen; simpa using this
          subst hnil
          have e1 : (zs.take (len * i.size) ++ []) ++ (zs.drop (len * i.size) ++ rest) = zs ++ rest := by rw [List.append_nil, ← List.append_assoc, List.take_append_drop]
          obtain ⟨k1, k2⟩ := hR.rehouse (next := next) hM h1 hn (rest' := zs.drop (len * i.size) ++ rest) (e := e') g2 hc0 hst (by rw [e1]; exact hsz) (hfr.len (by rw [e1]))
          rw [e1, putBlk_id g2] at k1 k2
          exact ⟨_, _, _, run_append_nothing w t tx ty e i ht hi (some a) len cap' (by omega) y hs, Kap.at_le hn, fun n hne => Kap.at_ne hne, hres _ (Kap.at_le hn) Kap.at_same, k1, k2⟩
        · obtain ⟨ha, s, hs2, hs3⟩ := h2.resolve_left (by omega)
          have ha' : a = ⟨b, 0, none⟩ := by rw [ha]; simp [plen]
          subst ha'
          rw [hsz] at hs2
          have hs2 := Option.some.inj hs2
          have hnl := hs.newsLen
          have hcap : (len + cnt) * i.size ≤ cap' * i.size := Nat.mul_le_mul_right _ hroom
          rw [Nat.add_mul] at hcap
          simp only [plen, Nat.zero_mul, Nat.zero_add] at hs3
          have hfit : len * i.size + news.length ≤ (zs ++ rest).length := by rw [hs2]; omega
          have hone : ∀ z ∈ news, oneV z = true := fun z hz => by
            have := hs.one z hz
            cases z <;> first | rfl | (simp [Value.oneCell'] at this; done)
          have hrun := run_append_here (P := P) (ty := ty) ht hi hs hroom g2 (hfr.len (by simp)) (by simpa using hfit) hone
          have e1 : splice (zs ++ rest).toArray.toList (len * i.size) news = (zs.take (len * i.size) ++ news) ++ (zs ++ rest).drop (len * i.size + news.length) := by
            unfold splice
            simp only [List.take_append_of_le_length (show len * i.size ≤ zs.length by omega), List.append_assoc]
          rw [e1] at hrun
          obtain ⟨k1, k2⟩ := hR.rehouse (next := next) hM h1 hn (rest' := (zs ++ rest).drop (len * i.size + news.length)) (e := e') g2 hc0 hst (by
            rw [← e1, splice_length _ _ _ (by simpa using hfit)]; simpa using hsz) (hfr.len (by rw [← e1, splice_length _ _ _ (by simpa using hfit)]))
          exact ⟨_, _, _, hrun, Kap.at_le hn, fun n hne => Kap.at_ne hne, hres _ (Kap.at_le hn) Kap.at_same, k1, k2⟩
      · obtain ⟨k1, k2⟩ := hR.drop n
        have hold : (Builtin.firstCells i.size len (.slice (some a) len cap')).run P w.drew = .ok (zs.take (len * i.size)).toArray w.drew := by
          by_cases hl : len = 0
          · subst hl
            simp only [Nat.zero_mul, List.take_zero]
            simp [Builtin.firstCells, loadCells, loadCellsFrom, pure]
          · obtain ⟨ha, s, hs2, hs3⟩ := h2.resolve_left (by omega)
            have ha' : a = ⟨b, 0, none⟩ := by rw [ha]; simp [plen]
            subst ha'
            have := run_loadCells (P := P) (w := w.drew) g2 0 (len * i.size) (by simp; omega)
            simp only [Builtin.firstCells]
            rw [this]
            simp [List.take_append_of_le_length (show len * i.size ≤ zs.length by omega)]
        have hc0 := hc _ κ (Kap.le_refl κ) hz1
        obtain ⟨κ', v', w', a1, a2, a3, a4, a5, a6⟩ := grow_ok (ty := ty) ht hi hz hb1 hzs hold hs (by omega) hlim k1 hn (c := c) hcw hc0
        exact ⟨κ', v', w', a1, a2, a3, a4, a5, k2.trans a6⟩

theorem appendE_ok (hZ : ZerosOk P) {R : Type} {o : Oper} {c : Call} {x y : Operand} (ho : o.op = .call c) (hc : c.callee = .builtin .append) (hx0 : c.args.toList = [x, y]) {t tx : TypeId} (ht0 : c.argTypes.toList = [t, tx]) {E : Env} {st : AS} {k : Ent → Option R} {r : R} (h : appendE P t tx x y E st k = some r) :
    ∃ e, k e = some r ∧ OpOk P o E st.next (find st.mem) e := by
  have e1 : c.args = #[x, y] := by apply Array.ext'; simpa using hx0
  have hmx : x ∈ o.op.operands := by rw [ho]; simp [Op.operands, Call.operands, hc, e1]
  have hmy : y ∈ o.op.operands := by rw [ho]; simp [Op.operands, Call.operands, hc, e1]
  unfold appendE at h
  split at h
  · rename_i e ht
    split at h
    · rename_i i hi
      split at h
      · rename_i z hz
        split at h
        · rename_i zc hzc
          obtain ⟨hb, h⟩ := cond_some h
          simp only [Bool.and_eq_true] at hb
          have hb1 := Nat.le_of_ble_eq_true hb.1
          have hzw := Nat.eq_of_beq_eq_true hb.2.2
          have hzs : z.cells.size = i.size := by
            have := ((zero_rel hZ hzc (zero_of_info hi hz)).2 ⟨fun _ => none, fun _ => none, fun _ => undef, fun _ => none⟩).length
            rw [hzw] at this; simpa using this
          split at h
          · rename_i yv hy
            obtain ⟨hk, h⟩ := cond_some h
            obtain ⟨W, f, us, cnt, rd, h1, hsrc⟩ := srcK_ok h
            obtain ⟨hW, h2⟩ := cond_some h1
            have hW : W = i.size ∨ cnt = 0 := by
              cases hbw : Nat.beq W i.size
              · rw [hbw] at hW; exact .inr (Nat.eq_of_beq_eq_true (by simpa using hW))
              · exact .inl (Nat.eq_of_beq_eq_true hbw)
            split at h2
            · rename_i hx
              obtain ⟨hlim, h3⟩ := cond_some h2
              have hlim := Nat.le_of_ble_eq_true hlim
              refine ⟨_, h3, fun κ a w M K Q hA hR hrd hfr hK => ?_⟩
              obtain ⟨news, hcn, hsr⟩ := (hsrc κ w M _ hR hrd (hA y hmy _ hy)).src hk (hA y hmy _ hy) hW
              have hu : a.eval x = .slice none 0 0 := by
                have := hA x hmx _ hx
                generalize a.eval x = u at this
                cases this; rfl
              obtain ⟨κ', v', w', a1, a2, a3, a4, a5, a6⟩ := append_nil_ok (ty := o.type) ht hi hz hb1 hzs hsr hlim hR (hfr st.next (Nat.le_refl _) (Nat.lt_succ_self _)) (by simp [cw, width]) hcn
              refine wp_value (callRun2 ho hc hx0 ht0 fun consts => ?_) (hK κ' v' w' a2 (fun n hn => a3 n (name_ne hn)) a4 a5 a6)
              rw [hu]; exact run_value a1
            · rename_i n W0 len cap hx
              split at h2
              · rename_i w' N f0 us0 tip hf
                obtain ⟨hw, h3⟩ := cond_some h2
                obtain ⟨hN, h4⟩ := cond_some h3
                obtain ⟨hlim, h5⟩ := cond_some h4
                have hlim := Nat.le_of_ble_eq_true hlim
                have hN := Nat.le_of_ble_eq_true hN
                simp only [Bool.and_eq_true] at hw
                have q1 := Nat.eq_of_beq_eq_true hw.1
                have q2 := Nat.eq_of_beq_eq_true hw.2
                have gen : ∀ (N' : Nat) (f' : Nat → List AV) (us' : List (Nat × List AV)), N' = len + cnt → (∀ (κ : Kap) (zs news : List Value), CRel κ [.arr i.size len f0 us0] zs → CRel κ [.arr i.size cnt f us] news → CRel κ [.arr i.size N' f' us'] (zs ++ news)) →
                    OpOk P o E st.next (find st.mem) ⟨.slc st.next [] 0 0 i.size N' N', [(n, none), (st.next, some (.cells [.arr i.size N' f' us'] true true))], 1, n :: rd⟩ := by
                  intro N' f' us' hN' hcc κ a w M K Q hA hR hrd hfr hK
                  subst hN'
                  obtain ⟨news, hcn, hsr⟩ := (hsrc κ w M _ hR (fun n' hn' => hrd n' (List.mem_cons_of_mem _ hn')) (hA y hmy _ hy)).src hk (hA y hmy _ hy) hW
                  have hM : M n = some (.cells [.arr i.size N f0 us0] true tip) := by rw [hrd n (List.mem_cons_self ..), hf, q2]
                  have hvx := hA x hmx _ hx
                  rw [q1] at hvx
                  obtain ⟨κ', v', w', a1, a2, a3, a4, a5, a6⟩ := append_own_ok (ty := o.type) ht hi hz hb1 hzs hsr hlim hR hM (hfr st.next (Nat.le_refl _) (Nat.lt_succ_self _)) hvx (cP := [.arr i.size len f0 us0]) (c := [.arr i.size (len + cnt) f' us'])
                    (fun κ2 zs hz => ⟨by rw [(arr_parts.1 hz).1]; exact Nat.mul_le_mul_right _ hN, arr_take hz hN⟩) (by simp [cw, width]) (fun zs κ2 hle2 hz2 => hcc κ2 zs news hz2 (hcn.mono hle2))
                  exact wp_value (callRun2 ho hc hx0 ht0 fun consts => run_value a1) (hK κ' v' w' a2 (fun n hn => a3 n (name_ne hn)) a4 a5 a6)
                split at h5
                · rename_i j cc
                  cases hj : (Nat.beq j 0 && Nat.beq cnt 1) <;> rw [hj] at h5
                  · exact ⟨_, h5, gen _ _ _ rfl fun κ zs news a b => arr_cat a b⟩
                  · simp only [Bool.and_eq_true] at hj
                    have hj0 := Nat.eq_of_beq_eq_true hj.1
                    have hj1 := Nat.eq_of_beq_eq_true hj.2
                    subst hj0; subst hj1
                    refine ⟨_, h5, gen _ _ _ rfl fun κ zs news a b => ?_⟩
                    obtain ⟨b1, bo, b2, b3⟩ := arr_parts.1 b
                    have c2 := b2 0 (by omega)
                    have c3 := b3 0 (by omega)
                    simp only [elt, Nat.beq_refl, cond_true] at c2 c3
                    rw [Nat.zero_mul, List.drop_zero, List.take_of_length_le (by omega)] at c3
                    exact arr_snoc a c3 c2 bo
                · exact ⟨_, h5, gen _ _ _ rfl fun κ zs news a b => arr_cat a b⟩
              · cases h2
            · cases h2
          · cases h
        · cases h
      · cases h
    · cases h
  · cases h
end
end Go.Sv
namespace Go.Sv
noncomputable section
open Go.RowKit
variable {P : Program}

/-- A list's elements, cell by cell; and the rows looked at. -/
def srcFK {R : Type} (m : List (Nat × Row)) (s : Nat) (x : AV) (k : List AV → Nat → List Nat → Option R) : Option R :=
  match x with
  | .raw (.slice none 0 0) => k [] 0 []
  | .raw (.slice (some _) 0 _) => k [] 0 []
  | .slc n [] o i w len _ => match find m n with
    | some (.cells c _ _) => bif Nat.beq w s then (match dropW c (o + i * w) with
      | some c1 => match takeW c1 (len * w) with
        | some c2 => bif flatC c2 then k c2 len [n] else none
        | none => none
      | none => none) else none
    | _ => none
  | _ => none
def SrcFOk (κ : Kap) (w : World) (y : Value) (s : Nat) (c : List AV) (len : Nat) : Prop :=
  cw c = len * s ∧ ∃ news, CRel κ c news ∧ (∀ z ∈ news, oneV z = true) ∧ ((∃ a c0 b off, y = .slice (some a) len c0 ∧ (len = 0 ∨ (a = ⟨b, off, none⟩ ∧ ∃ cs e fr, w.heap[b]? = some (.cells cs e fr) ∧ off + len * s ≤ cs.size ∧ news = (cs.toList.drop off).take (len * s)))) ∨
    (∃ c0, y = .slice none 0 c0 ∧ len = 0))
theorem srcFK_ok {R : Type} {m : List (Nat × Row)} {s : Nat} {x : AV} {k : List AV → Nat → List Nat → Option R} {r : R} (h : srcFK m s x k = some r) :
    ∃ c len rd, k c len rd = some r ∧ ∀ (κ : Kap) (w : World) (M : Mem) (y : Value), MRel κ M w → (∀ n ∈ rd, M n = find m n) → VRel κ x y → SrcFOk κ w y s c len := by
  unfold srcFK at h
  split at h
  · refine ⟨_, _, _, h, fun κ w M y hR _ hv => ?_⟩
    cases hv with
    | raw _ _ => exact ⟨by simp [cw], [], .nil, by simp, .inr ⟨0, rfl, rfl⟩⟩
  · refine ⟨_, _, _, h, fun κ w M y hR _ hv => ?_⟩
    cases hv with
    | raw _ _ => exact ⟨by simp [cw], [], .nil, by simp, .inl ⟨_, _, 0, 0, rfl, .inl rfl⟩⟩
  · rename_i n o i W len cap
    split at h
    · rename_i c own tip hf
      obtain ⟨hw, g⟩ := cond_some h
      clear h
      have hw := Nat.eq_of_beq_eq_true hw
      subst hw
      split at g
      · rename_i c1 hd
        split at g
        · rename_i c2 ht
          obtain ⟨hfl, g'⟩ := cond_some g
          refine ⟨_, _, _, g', fun κ w M y hR hM hv => ?_⟩
          have hrow : M n = some (.cells c own tip) := by rw [hM n (List.mem_singleton.2 rfl)]; exact hf
          obtain ⟨cr, hcr, hcw⟩ := takeW_spec _ _ _ ht
          cases hv with
          | slc _ _ _ _ _ _ _ b cap' a h1 h2 h3 h4 hn =>
            rcases hR.row n _ hrow with ⟨g1, _⟩ | ⟨b', zs, rst, e, fr, g1, g2, g3, g4, g5, g6, g7⟩
            · rw [h1] at g1; cases g1
            · rw [h1] at g1; cases g1
              obtain ⟨a1, a2⟩ := g3.dropW hd
              obtain ⟨b1, b2⟩ := a1.takeW ht
              simp only [List.length_drop] at b2
              refine ⟨hcw, _, b1, flatC_one hfl b1, .inl ⟨a, cap', b, o + i * W, rfl, ?_⟩⟩
              by_cases hl : len = 0
              · exact .inl hl
              · obtain ⟨ha, s, hs1, hs2⟩ := h2.resolve_left (by omega)
                refine .inr ⟨by rw [ha]; simp [plen], _, e, fr, g2, by simp; omega, ?_⟩
                simp only [List.drop_append_of_le_length (show o + i * W ≤ zs.length by omega)]
                rw [List.take_append_of_le_length (by simp; omega)]
          | slc0 _ _ _ _ _ h1 hn =>
            have e0 : c2 = [] := by
              have h0 : cw c2 = 0 := by rw [hcw]; simp
              have ht' : Sv.takeW c1 0 = some c2 := by simpa using ht
              cases c1 <;> (simp only [Sv.takeW, Option.some.injEq] at ht'; exact ht'.symm)
            subst e0
            exact ⟨hcw, [], .nil, by simp, .inr ⟨0, rfl, rfl⟩⟩
        · cases g
      · cases g
    · cases h
  · cases h
theorem SrcFOk.src {κ : Kap} {w : World} {y : Value} {s : Nat} {c : List AV} {cnt : Nat} (h : SrcFOk κ w y s c cnt) {tx e' : TypeId} (hu : P.underlying tx = some (.slice e')) :
    ∃ news, cw c = cnt * s ∧ CRel κ c news ∧ Src P s tx y cnt news w := by
  obtain ⟨hcw, news, hc, hone, h⟩ := h
  have hl := hc.length
  rw [hcw] at hl
  refine ⟨news, hcw, hc, ?_⟩
  rcases h with ⟨a, c0, b, off, rfl, h⟩ | ⟨c0, rfl, rfl⟩
  · by_cases h0 : cnt = 0
    · subst h0
      have : news = [] := by simpa using hl
      subst this
      exact Src.ofSlice w hu a 0 c0 [] (by simp) (fun j u h => by simp at h) (by simp)
    · obtain ⟨rfl, cs, e, fr, hb, hle, hn⟩ := h.resolve_left h0
      refine Src.ofSlice w hu _ cnt c0 news hl (fun j u hj => ?_) (fun u hu => oneCell_of (hone u hu))
      rw [addr_add, cell_blk hb]
      rw [hn, List.getElem?_take] at hj
      split at hj
      · rw [List.getElem?_drop] at hj; simpa using hj
      · cases hj
  · have : news = [] := by simpa using hl
    subst this
    exact Src.ofNil w hu c0
/-- Is it a list whose elements may bear names? -/
def flatElem (P : Program) (t : TypeId) : Bool :=
  match P.underlying t with
  | some (.slice e) => match zeroT P e with
    | some c => rawIn c
    | none => false
  | _ => false
section
variable {R : Type} (P)
def appendFE (t tx : TypeId) (x y : Operand) (E : Env) (st : AS) (k : Ent → Option R) : Option R :=
  match P.underlying t with
  | some (.slice e) => match P.underlying tx with
   | some (.slice _) => match P.info? e with
    | some i => match i.zero with
      | some _ => match zeroT P e with
       | some zc => bif Nat.ble 1 i.bytes && (Nat.ble 1 i.size && Nat.beq (cw zc) i.size) then
        match aeval E y with
        | some yv => srcFK st.mem i.size yv fun cs cnt rd =>
            match aeval E x with
            | some (.raw (.slice none 0 0)) => bif Nat.ble (cnt * i.bytes) LIM then
                k ⟨.slc st.next [] 0 0 i.size cnt cnt, [(st.next, some (.cells cs true true))], 1, rd⟩ else none
            | some (.slc n [] 0 0 w len _) => match find st.mem n with
              | some (.cells cR true _) => bif Nat.beq w i.size then bif Nat.ble ((len + cnt) * i.bytes) LIM then
                  match takeW cR (len * i.size) with
                  | some cP => k ⟨.slc st.next [] 0 0 i.size (len + cnt) (len + cnt), [(n, none), (st.next, some (.cells (cP ++ cs) true true))], 1, n :: rd⟩
                  | none => none
                else none else none
              | _ => none
            | _ => none
        | none => none
        else none
       | none => none
      | none => none
    | none => none
   | _ => none
  | _ => none
end
theorem appendFE_ok (hZ : ZerosOk P) {R : Type} {o : Oper} {c : Call} {x y : Operand} (ho : o.op = .call c) (hc : c.callee = .builtin .append) (hx0 : c.args.toList = [x, y]) {t tx : TypeId} (ht0 : c.argTypes.toList = [t, tx]) {E : Env} {st : AS} {k : Ent → Option R} {r : R} (h : appendFE P t tx x y E st k = some r) :
    ∃ e, k e = some r ∧ OpOk P o E st.next (find st.mem) e := by
  have e1 : c.args = #[x, y] := by apply Array.ext'; simpa using hx0
  have hmx : x ∈ o.op.operands := by rw [ho]; simp [Op.operands, Call.operands, hc, e1]
  have hmy : y ∈ o.op.operands := by rw [ho]; simp [Op.operands, Call.operands, hc, e1]
  unfold appendFE at h
  split at h
  · rename_i e ht
    split at h
    · rename_i etx htx
      split at h
      · rename_i i hi
        split at h
        · rename_i z hz
          split at h
          · rename_i zc hzc
            obtain ⟨hb, h⟩ := cond_some h
            simp only [Bool.and_eq_true] at hb
            have hb1 := Nat.le_of_ble_eq_true hb.1
            have hzw := Nat.eq_of_beq_eq_true hb.2.2
            have hzs : z.cells.size = i.size := by
              have := ((zero_rel hZ hzc (zero_of_info hi hz)).2 ⟨fun _ => none, fun _ => none, fun _ => undef, fun _ => none⟩).length
              rw [hzw] at this; simpa using this
            split at h
            · rename_i yv hy
              obtain ⟨cs, cnt, rd, h2, hsrc⟩ := srcFK_ok h
              split at h2
              · rename_i hx
                obtain ⟨hlim, h3⟩ := cond_some h2
                have hlim := Nat.le_of_ble_eq_true hlim
                refine ⟨_, h3, fun κ a w M K Q hA hR hrd hfr hK => ?_⟩
                obtain ⟨news, hcw, hcn, hsr⟩ := (hsrc κ w M _ hR hrd (hA y hmy _ hy)).src (P := P) htx
                have hu : a.eval x = .slice none 0 0 := by
                  have := hA x hmx _ hx
                  generalize a.eval x = u at this
                  cases this; rfl
                obtain ⟨κ', v', w', a1, a2, a3, a4, a5, a6⟩ := append_nil_ok (ty := o.type) ht hi hz hb1 hzs hsr hlim hR (hfr st.next (Nat.le_refl _) (Nat.lt_succ_self _)) hcw hcn
                refine wp_value (callRun2 ho hc hx0 ht0 fun consts => ?_) (hK κ' v' w' a2 (fun n hn => a3 n (name_ne hn)) a4 a5 a6)
                rw [hu]; exact run_value a1
              · rename_i n W0 len cap hx
                split at h2
                · rename_i cR tip hf
                  obtain ⟨hw, h3⟩ := cond_some h2
                  obtain ⟨hlim, h5⟩ := cond_some h3
                  have hlim := Nat.le_of_ble_eq_true hlim
                  have q1 := Nat.eq_of_beq_eq_true hw
                  split at h5
                  · rename_i cP hP
                    refine ⟨_, h5, fun κ a w M K Q hA hR hrd hfr hK => ?_⟩
                    obtain ⟨news, hcw, hcn, hsr⟩ := (hsrc κ w M _ hR (fun n' hn' => hrd n' (List.mem_cons_of_mem _ hn')) (hA y hmy _ hy)).src (P := P) htx
                    have hM : M n = some (.cells cR true tip) := by rw [hrd n (List.mem_cons_self ..), hf]
                    have hvx := hA x hmx _ hx
                    rw [q1] at hvx
                    obtain ⟨_, hcP, hcwP⟩ := takeW_spec _ _ _ hP
                    obtain ⟨κ', v', w', a1, a2, a3, a4, a5, a6⟩ := append_own_ok (ty := o.type) ht hi hz hb1 hzs hsr hlim hR hM (hfr st.next (Nat.le_refl _) (Nat.lt_succ_self _)) hvx (cP := cP) (c := cP ++ cs)
                      (fun κ2 zs hz => let q := hz.takeW hP; ⟨q.2, q.1⟩) (by rw [cw_append, hcwP, hcw, Nat.add_mul]) (fun zs κ2 hle2 hz2 => hz2.append (hcn.mono hle2))
                    exact wp_value (callRun2 ho hc hx0 ht0 fun consts => run_value a1) (hK κ' v' w' a2 (fun n hn => a3 n (name_ne hn)) a4 a5 a6)
                  · cases h5
                · cases h2
              · cases h2
            · cases h
          · cases h
        · cases h
      · cases h
    · cases h
  · cases h
end
end Go.Sv
namespace Go.Sv
noncomputable section
open Go.RowKit
variable {P : Program}

def sub0 (a b : Nat) : Nat := bif Nat.beq b 0 then a else a - b
theorem sub0_eq (a b : Nat) : sub0 a b = a - b := by
  unfold sub0
  cases h : Nat.beq b 0
  · rfl
  · have := Nat.eq_of_beq_eq_true h; subst this; simp
section
variable {R : Type} (P)
def boundK (x : Option Operand) (dflt : Nat) (E : Env) (hi : Nat) (k : Nat → Option R) : Option R :=
  match x with
  | none => k dflt
  | some op => match aeval E op with
    | some (.int _ i) => bif decide (0 ≤ i) then bif decide (i ≤ (hi : Int)) then k i.toNat else none else none
    | _ => none
def slice3E (t : TypeId) (x : Operand) (lo hi mx : Option Operand) (E : Env) (k : Ent → Option R) : Option R :=
  match hi, mx with
  | some hi, some mx => match qrun P (underlying t) with
    | some (.slice e) => match qrun P (sizeOf e) with
      | some s => match aeval E x with
        | some (.slc n ps o i0 w _ cap) => bif Nat.beq s w then boundK (some mx) 0 E cap fun mv => boundK (some hi) 0 E mv fun h => boundK lo 0 E h fun l => k ⟨.slc n ps o (add0 i0 l) w (sub0 h l) (sub0 mv l), [], 0, []⟩ else none
        | _ => none
      | none => none
    | _ => none
  | _, _ => none
def sliceE (t : TypeId) (x : Operand) (lo hi mx : Option Operand) (E : Env) (m : List (Nat × Row)) (k : Ent → Option R) : Option R :=
  match mx with
  | some mx' => slice3E P t x lo hi (some mx') E k
  | none => match qrun P (underlying t) with
    | some (.slice e) => match qrun P (sizeOf e) with
      | some s => match aeval E x with
        | some (.slc n ps o i0 w len cap) => bif Nat.beq s w then boundK hi len E cap fun h => boundK lo 0 E h fun l => k ⟨.slc n ps o (add0 i0 l) w (sub0 h l) (sub0 cap l), [], 0, []⟩ else none
        | some (.lst w f len us) => bif Nat.beq s w then boundK hi len E len fun h => boundK lo 0 E h fun l =>
            bif Nat.beq l 0 then k ⟨.lst w f h us, [], 0, []⟩ else k ⟨.lst w (fun j => elt us f (l + j)) (h - l) [], [], 0, []⟩ else none
        | _ => none
      | none => none
    | some .string => match aeval E x with
      | some (.str l0) => boundK hi l0.length E l0.length fun h => boundK lo 0 E h fun l => k ⟨.str ((l0.take h).drop l), [], 0, []⟩
      | _ => none
    | some (.array N e) => match qrun P (sizeOf e) with
      | some s => match aeval E x with
        | some (.ptr n ps o) => match find m n with
          | some (.cells c _ _) => walkK c ps fun c' => match dropW c' o with
            | some (.arr w N' _ _ :: _) => bif Nat.beq s w && Nat.beq N N' then boundK hi N E N fun h => boundK lo 0 E h fun l => k ⟨.slc n ps o l w (sub0 h l) (sub0 N l), [], 0, [n]⟩ else none
            | some c2 => match takeW c2 (N * s) with
              | some _ => boundK hi N E N fun h => boundK lo 0 E h fun l => k ⟨.slc n ps o l s (sub0 h l) (sub0 N l), [], 0, [n]⟩
              | none => none
            | none => none
          | _ => none
        | _ => none
      | none => none
    | _ => none
end

theorem boundK_some {R : Type} {x : Option Operand} {dflt hi : Nat} {E : Env} {k : Nat → Option R} {r : R} (h : boundK x dflt E hi k = some r) :
    ∃ n, k n = some r ∧ ((x = none ∧ n = dflt) ∨ ∃ op kd i, x = some op ∧ aeval E op = some (.int kd i) ∧ 0 ≤ i ∧ i ≤ (hi : Int) ∧ n = i.toNat) := by
  unfold boundK at h
  split at h
  · exact ⟨_, h, .inl ⟨rfl, rfl⟩⟩
  · rename_i op
    split at h
    · rename_i kd i hop
      obtain ⟨h0, h⟩ := cond_some h
      obtain ⟨h1, h⟩ := cond_some h
      exact ⟨_, h, .inr ⟨op, kd, i, rfl, hop, of_decide_eq_true h0, of_decide_eq_true h1, rfl⟩⟩
    · cases h
/-- What bounds come to. -/
theorem bounds_run {isSlice : Bool} {len cap : Nat} {lo hi : Option Value} {h l : Nat} {w : World} (hh : (hi = none ∧ h = len) ∨ ∃ kd i, hi = some (.int kd i) ∧ 0 ≤ i ∧ i ≤ (cap : Int) ∧ h = i.toNat)
    (hl : (lo = none ∧ l = 0) ∨ ∃ kd i, lo = some (.int kd i) ∧ 0 ≤ i ∧ i ≤ (h : Int) ∧ l = i.toNat) : (Instr.sliceBounds isSlice len cap lo hi none).run P w = .ok (l, h, cap) w := by
  unfold Instr.sliceBounds
  refine (run_bind_ok (e := (pure cap : Sem Nat)) (a := cap) (w' := w) rfl).trans ?_
  have h2 : ∀ {v : Nat} {code : BoundsCode} {kd : IntKind} {i : Int}, 0 ≤ i → i ≤ (v : Int) → (Instr.sliceBound (.int kd i) v code).run P w = .ok i.toNat w := by
    intro v code kd i a b
    unfold Instr.sliceBound
    refine (run_bind_ok (e := asIntOf (.int kd i)) (a := (kd, i)) (w' := w) rfl).trans ?_
    simp only [a, b, and_self, if_true]; rfl
  rcases hh with ⟨rfl, rfl⟩ | ⟨kd, i, rfl, a, b, rfl⟩
  · refine (run_bind_ok (e := (pure h : Sem Nat)) (a := h) (w' := w) rfl).trans ?_
    rcases hl with ⟨rfl, rfl⟩ | ⟨kd, i, rfl, a, b, rfl⟩
    · rfl
    · exact (run_bind_ok (h2 a b)).trans rfl
  · refine (run_bind_ok (h2 a b)).trans ?_
    rcases hl with ⟨rfl, rfl⟩ | ⟨kd, i', rfl, a', b', rfl⟩
    · rfl
    · exact (run_bind_ok (h2 a' b')).trans rfl

theorem bounds3_run {isSlice : Bool} {len cap : Nat} {lo : Option Value} {km kh : IntKind} {m' h' : Int} {h l m : Nat} {w : World} (hm : 0 ≤ m' ∧ m' ≤ (cap : Int) ∧ m = m'.toNat) (hh : 0 ≤ h' ∧ h' ≤ (m : Int) ∧ h = h'.toNat)
    (hl : (lo = none ∧ l = 0) ∨ ∃ kd i, lo = some (.int kd i) ∧ 0 ≤ i ∧ i ≤ (h : Int) ∧ l = i.toNat) : (Instr.sliceBounds isSlice len cap lo (some (.int kh h')) (some (.int km m'))).run P w = .ok (l, h, m) w := by
  unfold Instr.sliceBounds
  have h2 : ∀ {v : Nat} {code : BoundsCode} {kd : IntKind} {i : Int}, 0 ≤ i → i ≤ (v : Int) → (Instr.sliceBound (.int kd i) v code).run P w = .ok i.toNat w := by
    intro v code kd i a b
    unfold Instr.sliceBound
    refine (run_bind_ok (e := asIntOf (.int kd i)) (a := (kd, i)) (w' := w) rfl).trans ?_
    simp only [a, b, and_self, if_true]; rfl
  obtain ⟨m1, m2, rfl⟩ := hm
  obtain ⟨h1, h3, rfl⟩ := hh
  refine (run_bind_ok (h2 m1 m2)).trans ?_
  refine (run_bind_ok (h2 h1 h3)).trans ?_
  rcases hl with ⟨rfl, rfl⟩ | ⟨kd, i, rfl, a, b, rfl⟩
  · rfl
  · exact (run_bind_ok (h2 a b)).trans rfl
theorem slice3E_ok {R : Type} {o : Oper} {t : TypeId} {x : Operand} {lo hi mx : Option Operand} (ho : o.op = .slice t x lo hi mx) {E : Env} {m : List (Nat × Row)} {k : Ent → Option R} {r : R} (h : slice3E P t x lo hi mx E k = some r) :
    ∃ v rd, k ⟨v, [], 0, rd⟩ = some r ∧ StillOk P o E (find m) v rd := by
  unfold slice3E at h
  split at h
  · rename_i hi' mx'
    have hmx : x ∈ o.op.operands := by rw [ho]; simp [Op.operands]
    have hmlo : ∀ op, lo = some op → op ∈ o.op.operands := fun op e => by rw [ho, e]; simp [Op.operands]
    have hmhi : hi' ∈ o.op.operands := by rw [ho]; simp [Op.operands]
    have hmmx : mx' ∈ o.op.operands := by rw [ho]; simp [Op.operands]
    split at h
    · rename_i e ht
      split at h
      · rename_i s hs
        split at h
        · rename_i n ps o' i0 w0 len cap hx
          obtain ⟨hw, h0⟩ := cond_some h
          have hw := Nat.eq_of_beq_eq_true hw
          obtain ⟨mv, h1, hm⟩ := boundK_some h0
          obtain ⟨hv, h2, hh⟩ := boundK_some h1
          obtain ⟨lv, h3, hl⟩ := boundK_some h2
          clear h h0 h1 h2
          obtain ⟨opm, km, im, em, am, m1, m2, m3⟩ : ∃ op kd i, some mx' = some op ∧ aeval E op = some (.int kd i) ∧ 0 ≤ i ∧ i ≤ (cap : Int) ∧ mv = i.toNat := by
            rcases hm with ⟨h, _⟩ | h
            · cases h
            · exact h
          obtain ⟨oph, kh, ih, eh, ah, h1, h2, h4⟩ : ∃ op kd i, some hi' = some op ∧ aeval E op = some (.int kd i) ∧ 0 ≤ i ∧ i ≤ (mv : Int) ∧ hv = i.toNat := by
            rcases hh with ⟨h, _⟩ | h
            · cases h
            · exact h
          cases em; cases eh
          have hmc : mv ≤ cap := by omega
          have hhm : hv ≤ mv := by omega
          have hlle : lv ≤ hv := by rcases hl with ⟨_, e⟩ | ⟨op, kd, i, _, _, q0, q1, e⟩ <;> omega
          refine ⟨_, [], h3, fun κ a w M hA hR _ => ?_⟩
          have hp := hA x hmx _ hx
          generalize hea : a.eval x = ev at hp
          have run : ∀ (ao : Option Addr) (cap' : Nat), ev = .slice ao len cap' → cap ≤ cap' → (execOp a.eval o).run P w = .ok (.value (.slice (if mv = lv then ao else ao.map (·.add (lv * s))) (hv - lv) (mv - lv))) w := by
            intro ao cap' hev hc
            have v2 : (lo.map a.eval = none ∧ lv = 0) ∨ ∃ kd i, lo.map a.eval = some (.int kd i) ∧ 0 ≤ i ∧ i ≤ (hv : Int) ∧ lv = i.toNat := by
              rcases hl with ⟨rfl, e⟩ | ⟨op, kd, i, rfl, e, q⟩
              · exact .inl ⟨rfl, e⟩
              · exact .inr ⟨kd, i, by simp [int_of (hA op (hmlo op rfl) _ e)], q⟩
            have em := int_of (hA _ hmmx _ am)
            have eh := int_of (hA _ hmhi _ ah)
            simp only [execOp, ho]
            refine run_value ?_
            unfold Instr.sliceAt
            refine (run_q ht).trans ?_
            simp only [Option.map_some]
            unfold Instr.slice
            refine (run_q ht).trans ?_
            simp only [hea, hev, em, eh]
            refine (run_bind_ok (bounds3_run (P := P) (m := mv) (h := hv) (l := lv) ⟨m1, by omega, m3⟩ ⟨h1, h2, h4⟩ v2)).trans ?_
            exact (run_q hs).trans rfl
          cases hp with
          | slc _ _ _ _ _ _ _ b cap' ad g3 g4 g5 g6 _ =>
            refine ⟨_, ?_, run (some ad) cap' rfl g5⟩
            clear run hA hR hl hm hh m1 m2 m3 h1 h2 h4 am ah
            have hmc' := Nat.le_trans hmc g5
            simp only [sub0_eq, add0_eq]
            by_cases hm : mv = lv
            · rw [if_pos hm]
              exact .slc _ _ _ _ _ _ _ b _ _ g3 (.inl (by rw [hm, Nat.sub_self])) (Nat.le_refl _) (Nat.sub_le_sub_right hhm lv) .nil
            · rw [if_neg hm]
              have hlt : lv < mv := Nat.lt_of_le_of_ne (Nat.le_trans hlle hhm) (Ne.symm hm)
              obtain ⟨e1, sz, e2, e3⟩ := g4.resolve_left (Nat.ne_of_gt (Nat.lt_of_le_of_lt (Nat.zero_le _) (Nat.lt_of_lt_of_le hlt hmc')))
              subst e1
              clear g4
              simp only [Option.map_some, addr_add]
              refine .slc _ _ _ _ _ _ _ b _ _ g3 (.inr ⟨by rw [hw, Nat.add_mul]; simp only [Addr.mk.injEq, and_true, true_and]; omega, sz, e2, ?_⟩) (Nat.le_refl _) (Nat.sub_le_sub_right hhm lv) .nil
              have q1 : (i0 + lv) * w0 + (mv - lv) * w0 = i0 * w0 + mv * w0 := by rw [Nat.add_mul, Nat.sub_mul]; have := Nat.mul_le_mul_right w0 (Nat.le_of_lt hlt); omega
              have q2 := Nat.mul_le_mul_right w0 hmc'
              omega
          | slc0 _ _ _ _ _ g3 _ =>
            have m0 : mv = 0 := by omega
            have hv0 : hv = 0 := by omega
            have lv0 : lv = 0 := by omega
            subst m0; subst hv0; subst lv0
            refine ⟨_, ?_, run none 0 rfl (Nat.le_refl _)⟩
            exact .slc0 _ _ _ _ _ g3 .nil
        · cases h
      · cases h
    · cases h
  · cases h
theorem sliceE_ok {R : Type} {o : Oper} {t : TypeId} {x : Operand} {lo hi mx : Option Operand} (ho : o.op = .slice t x lo hi mx) {E : Env} {m : List (Nat × Row)} {k : Ent → Option R} {r : R} (h : sliceE P t x lo hi mx E m k = some r) :
    ∃ v rd, k ⟨v, [], 0, rd⟩ = some r ∧ StillOk P o E (find m) v rd := by
  unfold sliceE at h
  split at h
  · exact slice3E_ok ho h
  have hmx : x ∈ o.op.operands := by rw [ho]; simp [Op.operands]
  have hmlo : ∀ op, lo = some op → op ∈ o.op.operands := fun op e => by rw [ho, e]; simp [Op.operands]
  have hmhi : ∀ op, hi = some op → op ∈ o.op.operands := fun op e => by rw [ho, e]; simp [Op.operands]
  have vals : ∀ {hv lv dflt cap : Nat} (κ : Kap) (a : Act), AOn κ o E a → ((hi = none ∧ hv = dflt) ∨ ∃ op kd i, hi = some op ∧ aeval E op = some (.int kd i) ∧ 0 ≤ i ∧ i ≤ (cap : Int) ∧ hv = i.toNat) →
      ((lo = none ∧ lv = 0) ∨ ∃ op kd i, lo = some op ∧ aeval E op = some (.int kd i) ∧ 0 ≤ i ∧ i ≤ (hv : Int) ∧ lv = i.toNat) →
      ((hi.map a.eval = none ∧ hv = dflt) ∨ ∃ kd i, hi.map a.eval = some (.int kd i) ∧ 0 ≤ i ∧ i ≤ (cap : Int) ∧ hv = i.toNat) ∧ ((lo.map a.eval = none ∧ lv = 0) ∨ ∃ kd i, lo.map a.eval = some (.int kd i) ∧ 0 ≤ i ∧ i ≤ (hv : Int) ∧ lv = i.toNat) := by
    intro hv lv dflt cap κ a hA h1 h2
    refine ⟨?_, ?_⟩
    · rcases h1 with ⟨rfl, e⟩ | ⟨op, kd, i, rfl, e, h3⟩
      · exact .inl ⟨rfl, e⟩
      · exact .inr ⟨kd, i, by simp [int_of (hA op (hmhi op rfl) _ e)], h3⟩
    · rcases h2 with ⟨rfl, e⟩ | ⟨op, kd, i, rfl, e, h3⟩
      · exact .inl ⟨rfl, e⟩
      · exact .inr ⟨kd, i, by simp [int_of (hA op (hmlo op rfl) _ e)], h3⟩
  have lle : ∀ {hv lv : Nat}, ((lo = none ∧ lv = 0) ∨ ∃ op kd i, lo = some op ∧ aeval E op = some (.int kd i) ∧ 0 ≤ i ∧ i ≤ (hv : Int) ∧ lv = i.toNat) → lv ≤ hv := by
    intro hv lv h
    rcases h with ⟨_, e⟩ | ⟨op, kd, i, _, _, h0, h1, e⟩ <;> omega
  split at h
  · rename_i e ht
    split at h
    · rename_i s hs
      split at h
      · rename_i n ps o' i0 w0 len cap hx
        obtain ⟨hw, h⟩ := cond_some h
        have hw := Nat.eq_of_beq_eq_true hw
        obtain ⟨hv, h1, hh⟩ := boundK_some h
        obtain ⟨lv, h2, hl⟩ := boundK_some h1
        refine ⟨_, [], h2, fun κ a w M hA hR _ => ?_⟩
        have hlle := lle hl
        have hp := hA x hmx _ hx
        generalize hea : a.eval x = ev at hp
        have run : ∀ (ao : Option Addr) (cap' : Nat), ev = .slice ao len cap' → cap ≤ cap' → (execOp a.eval o).run P w = .ok (.value (.slice (if cap' = lv then ao else ao.map (·.add (lv * s))) (hv - lv) (cap' - lv))) w := by
          intro ao cap' hev hc
          obtain ⟨v1, v2⟩ := vals κ a hA (cap := cap') (hh.imp id fun ⟨op, kd, i, e1, e2, e3, e4, e5⟩ => ⟨op, kd, i, e1, e2, e3, by omega, e5⟩) hl
          simp only [execOp, ho]
          refine run_value ?_
          unfold Instr.sliceAt
          refine (run_q ht).trans ?_
          simp only [Option.map_none]
          unfold Instr.slice
          refine (run_q ht).trans ?_
          simp only [hea, hev]
          refine (run_bind_ok (bounds_run (P := P) v1 v2)).trans ?_
          exact (run_q hs).trans rfl
        have hvle : hv ≤ cap ∨ hv = len := by rcases hh with ⟨_, e⟩ | ⟨op, kd, i, _, _, h0, h1, e⟩ <;> omega
        cases hp with
        | slc _ _ _ _ _ _ _ b cap' ad h3 h4 h5 h6 _ =>
          refine ⟨_, ?_, run (some ad) cap' rfl h5⟩
          have hvc : hv ≤ cap' := by omega
          simp only [sub0_eq, add0_eq]
          by_cases hm : cap' = lv
          · rw [if_pos hm]
            exact .slc _ _ _ _ _ _ _ b _ _ h3 (.inl (by omega)) (by omega) (by omega) .nil
          · rw [if_neg hm]
            obtain ⟨e1, sz, e2, e3⟩ := h4.resolve_left (by omega)
            subst e1
            simp only [Option.map_some, addr_add]
            refine .slc _ _ _ _ _ _ _ b _ _ h3 (.inr ⟨by rw [hw, Nat.add_mul]; simp only [Addr.mk.injEq, and_true, true_and]; omega, sz, e2, ?_⟩) (by omega) (by omega) .nil
            have : (i0 + lv) * w0 + (cap' - lv) * w0 = i0 * w0 + cap' * w0 := by rw [Nat.add_mul, Nat.sub_mul]; have := Nat.mul_le_mul_right w0 (show lv ≤ cap' by omega); omega
            omega
        | slc0 _ _ _ _ _ h3 _ =>
          have hv0 : hv = 0 := by omega
          have lv0 : lv = 0 := by omega
          subst hv0; subst lv0
          refine ⟨_, ?_, run none 0 rfl (Nat.le_refl _)⟩
          exact .slc0 _ _ _ _ _ h3 .nil
      · rename_i w0 f len us hx
        obtain ⟨hw, h⟩ := cond_some h
        have hw := Nat.eq_of_beq_eq_true hw
        obtain ⟨hv, h1, hh⟩ := boundK_some h
        obtain ⟨lv, h2, hl⟩ := boundK_some h1
        have hlle := lle hl
        have hvle : hv ≤ len := by rcases hh with ⟨_, e⟩ | ⟨op, kd, i, _, _, h0, h1, e⟩ <;> omega
        have key : ∀ (g : Nat → List AV) (us' : List (Nat × List AV)) (ln : Nat), ln = hv - lv → (∀ j, elt us' g j = elt us f (lv + j)) → StillOk P o E (find m) (.lst w0 g ln us') [] := by
          intro g us' ln hln hg κ a w M hA hR _
          subst hln
          have hp := hA x hmx _ hx
          generalize hea : a.eval x = ev at hp
          have run : ∀ (ao : Option Addr) (cap' : Nat), ev = .slice ao len cap' → len ≤ cap' → (execOp a.eval o).run P w = .ok (.value (.slice (if cap' = lv then ao else ao.map (·.add (lv * s))) (hv - lv) (cap' - lv))) w := by
            intro ao cap' hev hc
            obtain ⟨v1, v2⟩ := vals κ a hA (cap := cap') (hh.imp id fun ⟨op, kd, i, e1, e2, e3, e4, e5⟩ => ⟨op, kd, i, e1, e2, e3, by omega, e5⟩) hl
            simp only [execOp, ho]
            refine run_value ?_
            unfold Instr.sliceAt
            refine (run_q ht).trans ?_
            simp only [Option.map_none]
            unfold Instr.slice
            refine (run_q ht).trans ?_
            simp only [hea, hev]
            refine (run_bind_ok (bounds_run (P := P) v1 v2)).trans ?_
            exact (run_q hs).trans rfl
          cases hp with
          | lst _ _ b off cap' _ _ cs h3 h4 h5 ho' h6 h7 _ =>
            refine ⟨_, ?_, run _ cap' rfl h5⟩
            by_cases h0 : hv - lv = 0
            · rw [h0]; exact .lst0 _ _ _ _ _ .nil
            · rw [if_neg (by omega)]
              simp only [Option.map_some, addr_add]
              have hle : (lv + (hv - lv)) * w0 ≤ len * w0 := Nat.mul_le_mul_right _ (by omega)
              rw [Nat.add_mul] at hle
              rw [hw]
              refine .lst _ _ b _ _ _ _ cs h3 (by omega) (by omega) (fun z hz => ho' z ?_) (fun j hj => by rw [hg]; exact h6 _ (by omega)) (fun j hj => ?_) .nil
              · have e1 : (cs.drop (off + lv * w0)).take ((hv - lv) * w0) = ((((cs.drop off).take (len * w0)).drop (lv * w0)).take ((hv - lv) * w0)) := by
                  rw [List.drop_take, List.take_take, List.drop_drop, Nat.min_eq_left (by omega)]
                rw [e1] at hz
                exact List.mem_of_mem_drop (List.mem_of_mem_take hz)
              · rw [hg]
                have := h7 (lv + j) (by omega)
                rw [Nat.add_mul] at this
                rw [show off + lv * w0 + j * w0 = off + (lv * w0 + j * w0) from by omega]
                exact this
          | lst0 _ cap' _ _ ao _ =>
            by_cases hm : hv = 0
            · subst hm
              have : lv = 0 := by omega
              subst this
              refine ⟨_, ?_, run ao cap' rfl (Nat.zero_le _)⟩
              exact .lst0 _ _ _ _ _ .nil
            · omega
        cases hb : Nat.beq lv 0 <;> rw [hb] at h2
        · exact ⟨_, [], h2, key _ [] _ rfl fun j => rfl⟩
        · have := Nat.eq_of_beq_eq_true hb
          subst this
          exact ⟨_, [], h2, key f us _ (by omega) fun j => by rw [Nat.zero_add]⟩
      · cases h
    · cases h
  · rename_i ht
    split at h
    · rename_i l0 hx
      obtain ⟨hv, h1, hh⟩ := boundK_some h
      obtain ⟨lv, h2, hl⟩ := boundK_some h1
      refine ⟨_, [], h2, fun κ a w M hA hR _ => ?_⟩
      have hp := hA x hmx _ hx
      generalize hea : a.eval x = ev at hp
      cases hp with
      | str _ _ =>
        have hsz : (⟨l0.toArray⟩ : ByteArray).size = l0.length := by simp [ByteArray.size]
        obtain ⟨v1, v2⟩ := vals κ a hA (cap := (⟨l0.toArray⟩ : ByteArray).size) (dflt := (⟨l0.toArray⟩ : ByteArray).size) (by rw [hsz]; exact hh) hl
        have e1 : (⟨l0.toArray⟩ : ByteArray).extract lv hv = ⟨((l0.take hv).drop lv).toArray⟩ := by
          apply ByteArray.ext
          rw [ByteArray.data_extract]
          apply Array.ext'
          simp [List.drop_take]
        refine ⟨_, .str _ .nil, ?_⟩
        simp only [execOp, ho]
        refine run_value ?_
        unfold Instr.sliceAt
        refine (run_q ht).trans ?_
        simp only [Option.map_none]
        unfold Instr.slice
        refine (run_q ht).trans ?_
        simp only [hea, Option.isSome_none, Bool.false_eq_true, if_false]
        refine (run_bind_ok (bounds_run (P := P) v1 v2)).trans ?_
        rw [← e1]; rfl
    · cases h
  · rename_i N e ht
    split at h
    · rename_i s hs
      split at h
      · rename_i n ps o' hx
        split at h
        · rename_i c own tip hf
          obtain ⟨c', hwk, h⟩ := walkK_some _ _ _ h
          split at h
          · rename_i w0 N' f us rest hd
            obtain ⟨hw, h⟩ := cond_some h
            simp only [Bool.and_eq_true] at hw
            have hw0 := Nat.eq_of_beq_eq_true hw.1
            have hN := Nat.eq_of_beq_eq_true hw.2
            obtain ⟨hv, h1, hh⟩ := boundK_some h
            obtain ⟨lv, h2, hl⟩ := boundK_some h1
            have hlle := lle hl
            have hvle : hv ≤ N := by rcases hh with ⟨_, e⟩ | ⟨op, kd, i, _, _, h0, h1, e⟩ <;> omega
            refine ⟨_, [n], h2, fun κ a w M hA hR hrd => ?_⟩
            have hp := hA x hmx _ hx
            generalize hea : a.eval x = ev at hp
            cases hp with
            | ptr _ p _ b _ h3 h4 _ =>
              have hM : M n = some (.cells c own tip) := by rw [hrd n (List.mem_singleton.2 rfl)]; exact hf
              obtain ⟨v1, v2⟩ := vals κ a hA (cap := N) hh hl
              refine ⟨.slice (some (if N = lv then ⟨b, p, none⟩ else (⟨b, p, none⟩ : Addr).add (lv * s))) (hv - lv) (N - lv), ?_, ?_⟩
              rotate_left
              · simp only [execOp, ho]
                refine run_value ?_
                unfold Instr.sliceAt
                refine (run_q ht).trans ?_
                simp only [hea]
                refine (run_bind_ok (e := Instr.sureAddr (.pointer (some ⟨b, p, none⟩))) (a := ⟨b, p, none⟩) (w' := w) rfl).trans ?_
                refine (run_bind_ok (bounds_run (P := P) v1 v2)).trans ?_
                exact (run_q hs).trans rfl
              · simp only [sub0_eq]
                have hpl := ((hR.place hM h3).walk ps hwk).drop hd
                obtain ⟨b', off, cs, e', fr, ha, hb', hle, _⟩ := hpl
                cases ha
                have hszb : κ.sz b = some cs.size := by
                  rcases hR.row n _ hM with ⟨g1, _⟩ | ⟨b2, zs, rst, e2, fr2, g1, g2, g3, g4, g5, g6, g7⟩
                  · rw [h3] at g1; cases g1
                  · rw [h3] at g1; cases g1
                    rw [hb'] at g2; cases g2
                    rw [g7]; simp
                simp only [cw, width] at hle
                have hmul : lv * w0 + (N - lv) * w0 = N * w0 := by rw [Nat.sub_mul]; have := Nat.mul_le_mul_right w0 (show lv ≤ N by omega); omega
                by_cases hm : N = lv
                · rw [if_pos hm]
                  exact .slc _ _ _ _ _ _ _ b _ _ h3 (.inl (by omega)) (Nat.le_refl _) (by omega) .nil
                · rw [if_neg hm, addr_add]
                  refine .slc _ _ _ _ _ _ _ b _ _ h3 (.inr ⟨by rw [h4, hw0], cs.size, hszb, ?_⟩) (Nat.le_refl _) (by omega) .nil
                  subst hN
                  omega
          · rename_i c2 _ hd
            split at h
            rotate_left
            · cases h
            rename_i c3 htk
            obtain ⟨cr, hcr, hcw3⟩ := takeW_spec _ _ _ htk
            obtain ⟨hv, h1, hh⟩ := boundK_some h
            obtain ⟨lv, h2, hl⟩ := boundK_some h1
            have hlle := lle hl
            have hvle : hv ≤ N := by rcases hh with ⟨_, e⟩ | ⟨op, kd, i, _, _, h0, h1, e⟩ <;> omega
            refine ⟨_, [n], h2, fun κ a w M hA hR hrd => ?_⟩
            have hp := hA x hmx _ hx
            generalize hea : a.eval x = ev at hp
            cases hp with
            | ptr _ p _ b _ h3 h4 _ =>
              have hM : M n = some (.cells c own tip) := by rw [hrd n (List.mem_singleton.2 rfl)]; exact hf
              obtain ⟨v1, v2⟩ := vals κ a hA (cap := N) hh hl
              refine ⟨.slice (some (if N = lv then ⟨b, p, none⟩ else (⟨b, p, none⟩ : Addr).add (lv * s))) (hv - lv) (N - lv), ?_, ?_⟩
              rotate_left
              · simp only [execOp, ho]
                refine run_value ?_
                unfold Instr.sliceAt
                refine (run_q ht).trans ?_
                simp only [hea]
                refine (run_bind_ok (e := Instr.sureAddr (.pointer (some ⟨b, p, none⟩))) (a := ⟨b, p, none⟩) (w' := w) rfl).trans ?_
                refine (run_bind_ok (bounds_run (P := P) v1 v2)).trans ?_
                exact (run_q hs).trans rfl
              · simp only [sub0_eq]
                have hpl := ((hR.place hM h3).walk ps hwk).drop hd
                obtain ⟨b', off, cs, e', fr, ha, hb', hle, _⟩ := hpl
                cases ha
                have hszb : κ.sz b = some cs.size := by
                  rcases hR.row n _ hM with ⟨g1, _⟩ | ⟨b2, zs, rst, e2, fr2, g1, g2, g3, g4, g5, g6, g7⟩
                  · rw [h3] at g1; cases g1
                  · rw [h3] at g1; cases g1
                    rw [hb'] at g2; cases g2
                    rw [g7]; simp
                rw [hcr, cw_append, hcw3] at hle
                have hmul : lv * s + (N - lv) * s = N * s := by rw [Nat.sub_mul]; have := Nat.mul_le_mul_right s (show lv ≤ N by omega); omega
                by_cases hm : N = lv
                · rw [if_pos hm]
                  exact .slc _ _ _ _ _ _ _ b _ _ h3 (.inl (by omega)) (Nat.le_refl _) (by omega) .nil
                · rw [if_neg hm, addr_add]
                  refine .slc _ _ _ _ _ _ _ b _ _ h3 (.inr ⟨by rw [h4], cs.size, hszb, ?_⟩) (Nat.le_refl _) (by omega) .nil
                  omega
          · cases h
        · cases h
      · cases h
    · cases h
  · cases h
end
end Go.Sv
namespace Go.Sv
noncomputable section
open Go.RowKit
variable {P : Program}

section
variable {R : Type} (P)
def makeSliceE (t : TypeId) (x y : Operand) (E : Env) (st : AS) (k : Ent → Option R) : Option R :=
  match P.underlying t with
  | some (.slice e) => match P.info? e with
    | some i => match i.zero with
      | some _ => match zeroT P e with
        | some c => match aeval E x, aeval E y with
          | some (.int _ l), some (.int _ n) => bif Nat.ble 1 i.bytes && (Nat.ble 1 i.size && Nat.beq (cw c) i.size) then
              bif decide (0 ≤ l) then bif decide (l ≤ n) then bif decide ((i.bytes : Int) * n ≤ (LIM : Int)) then
                bif rawIn c then k ⟨.slc st.next [] 0 0 i.size l.toNat n.toNat, [(st.next, some (.cells (List.replicate n.toNat c).flatten true false))], 1, []⟩ else
                k ⟨.slc st.next [] 0 0 i.size l.toNat n.toNat, [(st.next, some (.cells [.arr i.size n.toNat (fun _ => c) []] true false))], 1, []⟩
              else none else none else none else none
          | _, _ => none
        | none => none
      | none => none
    | none => none
  | _ => none
end
theorem makeSliceE_ok (hZ : ZerosOk P) {R : Type} {o : Oper} {t : TypeId} {x y : Operand} (ho : o.op = .makeSlice t x y) {E : Env} {st : AS} {k : Ent → Option R} {r : R} (h : makeSliceE P t x y E st k = some r) :
    ∃ e, k e = some r ∧ OpOk P o E st.next (find st.mem) e := by
  have hmx : x ∈ o.op.operands := by rw [ho]; simp [Op.operands]
  have hmy : y ∈ o.op.operands := by rw [ho]; simp [Op.operands]
  unfold makeSliceE at h
  split at h
  · rename_i e ht
    split at h
    · rename_i i hi
      split at h
      · rename_i z hz
        split at h
        · rename_i c hc
          split at h
          · rename_i kd l kd' n hx hy
            obtain ⟨hb, h⟩ := cond_some h
            simp only [Bool.and_eq_true] at hb
            have hb1 := Nat.le_of_ble_eq_true hb.1
            have hs1 := Nat.le_of_ble_eq_true hb.2.1
            have hcw := Nat.eq_of_beq_eq_true hb.2.2
            obtain ⟨h0, h⟩ := cond_some h
            obtain ⟨h1, h⟩ := cond_some h
            obtain ⟨h2, h⟩ := cond_some h
            have h0 := of_decide_eq_true h0
            have h1 := of_decide_eq_true h1
            have h2 := of_decide_eq_true h2
            have gen : ∀ cc : List AV, (∀ κ : Kap, z.cells.size = i.size ∧ CRel κ cc ((Array.range (n.toNat * i.size)).map (z.cells[· % z.cells.size]!)).toList) → cw cc = n.toNat * i.size →
                OpOk P o E st.next (find st.mem) ⟨.slc st.next [] 0 0 i.size l.toNat n.toNat, [(st.next, some (.cells cc true false))], 1, []⟩ := by
             intro cc hcc hccw κ a w M K Q hA hR hrd hfr hK
             have hzz := zero_of_info hi hz
             obtain ⟨hzs, hzr⟩ := hcc κ
             obtain ⟨k1, k2, k3, k4⟩ := new_row hR (hfr st.next (Nat.le_refl _) (Nat.lt_succ_self _)) (e := e) (rest := []) (tip := false) hzr (fun _ => rfl)
             have hl := hzr.length
             rw [hccw] at hl
             have hn47 : n ≤ 140737488355328 := by
               have : n ≤ (i.bytes : Int) * n := by
                 have h3 : (1 : Int) ≤ i.bytes := by exact_mod_cast hb1
                 have := Int.mul_le_mul_of_nonneg_right h3 (show 0 ≤ n by omega)
                 omega
               simp only [LIM] at h2; omega
             have wl : IntKind.i64.wrap l = l := by simp [IntKind.wrap, IntKind.bits, IntKind.signed]; omega
             have wn : IntKind.i64.wrap n = n := by simp [IntKind.wrap, IntKind.bits, IntKind.signed]; omega
             have hrun : (execOp a.eval o).run P w = .ok (.value (.slice (some ⟨w.heap.size, 0, none⟩) l.toNat n.toNat)) (w.alloc (.cells ((((Array.range (n.toNat * i.size)).map (z.cells[· % z.cells.size]!)).toList ++ []).toArray) e)) := by
               simp only [execOp, ho, int_of (hA x hmx _ hx), int_of (hA y hmy _ hy)]
               refine run_value ?_
               have hu : qrun P (underlying t) = some (.slice e) := by simp [underlying, program, bind, Sem.bind, qrun, ht, pure]
               have hti : qrun P (typeInfo e) = some i := by simp [typeInfo, program, bind, Sem.bind, qrun, hi, pure]
               have hsi : qrun P (sizeOf e) = some i.size := by simp [sizeOf, typeInfo, program, bind, Sem.bind, qrun, hi, pure]
               unfold Instr.makeSlice
               refine (run_q hu).trans ?_
               refine (run_bind_ok (e := asInt (.int kd l)) (a := l) (w' := w) rfl).trans ?_
               refine (run_bind_ok (e := asInt (.int kd' n)) (a := n) (w' := w) rfl).trans ?_
               refine (run_q hti).trans ?_
               simp only [wl, wn]
               have c1 : (decide (n < 0) || decide ((i.bytes : Int) * n > 2 ^ 48)) = false := by
                 simp only [LIM] at h2
                 rw [Bool.or_eq_false_iff]
                 exact ⟨decide_eq_false (by omega), decide_eq_false (by omega)⟩
               have c2 : (decide (n < 0) || decide ((i.bytes : Int) * n > 2 ^ 48) || decide (l < 0) || decide (l > n)) = false := by
                 rw [c1, Bool.false_or, Bool.or_eq_false_iff]
                 exact ⟨decide_eq_false (by omega), decide_eq_false (by omega)⟩
               rw [c2]
               simp only [Bool.false_eq_true, if_false]
               refine (run_bind_ok (e := askRoom (n.toNat * i.bytes)) (a := ()) (w' := w) (by unfold askRoom; split <;> rfl)).trans ?_
               refine (run_q hsi).trans ?_
               by_cases hn0 : n.toNat * i.size = 0
               · simp only [hn0, if_true]
                 refine (run_bind_ok (e := (pure #[] : Sem (Array Value))) (a := #[]) (w' := w) rfl).trans ?_
                 have e0 : ∀ f : Nat → Value, Array.map f (Array.range 0) = #[] := fun f => by apply Array.ext'; simp
                 rw [e0, e0]
                 rfl
               · simp only [hn0, if_false]
                 refine (run_q hzz).trans ?_
                 refine (run_bind_ok (e := (pure z.cells : Sem (Array Value))) (a := z.cells) (w' := w) rfl).trans ?_
                 rw [List.append_nil, Array.toArray_toList]
                 rfl
             refine wp_value hrun (hK _ _ _ k1 (fun n hn => Kap.at_ne (name_ne hn)) ?_ k2 k3)
             refine .slc _ _ _ _ _ _ _ w.heap.size n.toNat _ k4 (.inr ⟨by simp [plen], _, by simp only [Kap.new, Kap.at, Kap.blk, if_true]; rfl, by rw [List.append_nil, hl]; simp [plen]⟩) (Nat.le_refl _) (by omega) .nil
            have hw1 : ∀ m : Nat, cw (List.replicate m c).flatten = m * cw c := fun m => by
              induction m with
              | zero => simp [cw]
              | succ m ih => rw [List.replicate_succ, List.flatten_cons, cw_append, ih, Nat.succ_mul, Nat.add_comm]
            cases hraw : rawIn c with
            | true =>
              rw [hraw, cond_true] at h
              exact ⟨_, h, gen _ (fun κ => zeros_flat hZ hc (zero_of_info hi hz) hcw (by omega) n.toNat κ) (by rw [hw1, hcw])⟩
            | false =>
              rw [hraw, cond_false] at h
              exact ⟨_, h, gen _ (fun κ => zeros_rel hZ hc (zero_of_info hi hz) hcw (by omega) n.toNat κ) (by simp [cw, width])⟩
          · cases h
        · cases h
      · cases h
    · cases h
  · cases h

/-! ### elements in the place of others -/
def midF (a n : Nat) (us : List (Nat × List AV)) (f : Nat → List AV) (vs : List (Nat × List AV)) (g : Nat → List AV) : Nat → List AV := fun j => bif Nat.ble a j && Nat.blt j (a + n) then elt vs g (j - a) else elt us f j
theorem arr_mid {κ : Kap} {w N a n : Nat} {f g : Nat → List AV} {us vs : List (Nat × List AV)} {zs ys : List Value} (h : CRel κ [.arr w N f us] zs) (k : CRel κ [.arr w n g vs] ys) (hle : a + n ≤ N) :
    CRel κ [.arr w N (midF a n us f vs g) []] (splice zs (a * w) ys) ∧ a * w + ys.length ≤ zs.length := by
  obtain ⟨b1, _, _, _⟩ := arr_parts.1 h
  obtain ⟨c1, _, _, _⟩ := arr_parts.1 k
  have h1 := arr_take h (m := a) (by omega)
  have h2 := arr_drop h (a := a + n) hle
  have hm : (a + n) * w ≤ N * w := Nat.mul_le_mul_right w hle
  rw [Nat.add_mul] at hm
  have h3 := arr_cat h1 (arr_cat k h2)
  have e1 : splice zs (a * w) ys = zs.take (a * w) ++ (ys ++ zs.drop ((a + n) * w)) := by
    unfold splice
    rw [c1, Nat.add_mul]
  rw [e1]
  refine ⟨?_, by omega⟩
  have e2 : a + (n + (N - (a + n))) = N := by omega
  rw [e2] at h3
  refine arr_ext h3 fun i hi => ?_
  have blt_iff : ∀ x y : Nat, Nat.blt x y = decide (x < y) := fun x y => by
    cases hb : Nat.blt x y
    · rw [eq_comm, decide_eq_false_iff_not]; intro h; rw [← Nat.blt_eq, hb] at h; cases h
    · rw [Nat.blt_eq] at hb; simp [hb]
  have ble_iff : ∀ x y : Nat, Nat.ble x y = decide (x ≤ y) := fun x y => by
    cases hb : Nat.ble x y
    · rw [eq_comm, decide_eq_false_iff_not]; intro h; rw [Nat.ble_eq_true_of_le h] at hb; cases hb
    · simp [Nat.le_of_ble_eq_true hb]
  simp only [elt, midF, catF, blt_iff, ble_iff]
  by_cases hia : i < a
  · have : ¬ a ≤ i := by omega
    simp [hia, this]
  · by_cases hin : i < a + n
    · have : i - a < n := by omega
      have : a ≤ i := by omega
      simp [*]
    · have h5 : ¬ i - a < n := by omega
      simp only [hia, hin, h5, decide_false, cond_false, Bool.and_false]
      congr 1; omega

section
variable {R : Type} (P)
/-- n elements of a row, from element i of the array at o on, are set. -/
def setElsK (m : List (Nat × Row)) (n o i w cnt : Nat) (vs : List (Nat × List AV)) (g : Nat → List AV) (k : Row → Option R) : Option R :=
  match find m n with
  | some (.cells c true tip) => updAtK c o (fun x k' => match x with
      | .arr w' N f us => bif Nat.beq w w' then bif Nat.ble (add0 i cnt) N then k' (.arr w' N (midF i cnt us f vs g) []) else none else none
      | _ => none) fun c' => k (.cells c' true tip)
  | _ => none
def clearE (t : TypeId) (x : Operand) (E : Env) (m : List (Nat × Row)) (k : Ent → Option R) : Option R :=
  match P.underlying t with
  | some (.slice e) => match P.info? e with
    | some it => match it.zero with
      | some _ => match zeroT P e with
        | some zc => match aeval E x with
          | some (.slc n [] o i w len _) => bif Nat.ble 1 it.size && (Nat.beq w it.size && Nat.beq (cw zc) it.size) then
              setElsK m n o i w len [] (fun _ => zc) fun r => k ⟨.tup [], [(n, some r)], 0, [n]⟩
            else none
          | _ => none
        | none => none
      | none => none
    | none => none
  | _ => none
def copyE (t tx : TypeId) (x y : Operand) (E : Env) (m : List (Nat × Row)) (k : Ent → Option R) : Option R :=
  match P.underlying t with
  | some (.slice e) => match P.info? e with
    | some it => match aeval E y with
      | some yv => bif kindOk P tx yv && Nat.ble 1 it.size then srcK m yv fun W f us cnt rd => bif Nat.beq W it.size || Nat.beq cnt 0 then
          match aeval E x with
          | some (.slc n [] o i w len _) => bif Nat.beq w it.size then
              bif Nat.ble cnt len then setElsK m n o i w cnt us f fun r => k ⟨.int .i64 (cnt : Int), [(n, some r)], 0, n :: rd⟩ else none
            else none
          | _ => none
        else none else none
      | none => none
    | none => none
  | _ => none
end
theorem splice_in {α : Type} (z1 zc z3 : List α) (a : Nat) (ys : List α) (h : a + ys.length ≤ zc.length) : splice (z1 ++ (zc ++ z3)) (z1.length + a) ys = z1 ++ (splice zc a ys ++ z3) := by
  apply List.ext_getElem?
  intro k
  rw [splice_get _ _ _ (by simp; omega)]
  rw [List.getElem?_append (l₁ := z1), List.getElem?_append (l₁ := z1)]
  by_cases h1 : k < z1.length
  · rw [if_pos h1, if_neg (by omega), if_pos h1]
  · rw [if_neg h1, if_neg h1, List.getElem?_append, List.getElem?_append, splice_length _ _ _ h]
    by_cases h2 : k - z1.length < zc.length
    · rw [if_pos h2, if_pos h2, splice_get _ _ _ h]
      by_cases h3 : a ≤ k - z1.length ∧ k - z1.length < a + ys.length
      · rw [if_pos h3, if_pos (by omega)]
        congr 1; omega
      · rw [if_neg h3, if_neg (by omega)]
    · rw [if_neg h2, if_neg h2, if_neg (by omega)]
theorem chunk_mid {κ : Kap} {pre post : List AV} {w N i cnt : Nat} {f g : Nat → List AV} {us vs : List (Nat × List AV)} {zs ys : List Value} (h : CRel κ (pre ++ .arr w N f us :: post) zs) (k : CRel κ [.arr w cnt g vs] ys) (hle : i + cnt ≤ N) :
    CRel κ (pre ++ .arr w N (midF i cnt us f vs g) [] :: post) (splice zs (cw pre + i * w) ys) ∧ cw pre + i * w + ys.length ≤ zs.length := by
  obtain ⟨z1, z', rfl, a1, a2⟩ := h.split
  have a2' : CRel κ ([.arr w N f us] ++ post) z' := a2
  obtain ⟨zc, z3, rfl, a3, a4⟩ := a2'.split
  obtain ⟨q1, q2⟩ := arr_mid a3 k hle
  have l1 := a1.length
  rw [← l1, splice_in _ _ _ _ _ q2]
  refine ⟨a1.append (q1.append a4), by simp; omega⟩

/-- Storing those elements: the row, and the world. -/
theorem setElsK_ok {R : Type} {m : List (Nat × Row)} {n o i w cnt : Nat} {vs : List (Nat × List AV)} {g : Nat → List AV} {k : Row → Option R} {r : R} (h : setElsK m n o i w cnt vs g k = some r) :
    ∃ row, k row = some r ∧ ∀ (κ : Kap) (wd : World) (M : Mem), MRel κ M wd → M n = find m n → ∀ {len cap : Nat} {u : Value}, VRel κ (.slc n [] o i w len cap) u → cnt ≤ len → ∀ {ys : List Value}, CRel κ [.arr w cnt g vs] ys →
      (cnt = 0 ∧ MRel κ (M.set n (some row)) wd ∧ Fr κ M wd κ (M.set n (some row)) wd) ∨
      ∃ b off cap' wd', u = .slice (some ⟨b, off, none⟩) len cap' ∧ (storeCells ⟨b, off, none⟩ ys).run P wd = .ok () wd' ∧ MRel κ (M.set n (some row)) wd' ∧ Fr κ M wd κ (M.set n (some row)) wd' := by
  unfold setElsK at h
  split at h
  · rename_i c tip hf
    obtain ⟨pre, x, post, rfl, h1, h2⟩ := updAtK_some _ _ _ h
    split at h2
    · rename_i w' N f us
      obtain ⟨hw, h3⟩ := cond_some h2
      obtain ⟨hN, h4⟩ := cond_some h3
      have hw := Nat.eq_of_beq_eq_true hw
      subst hw
      have hN := Nat.le_of_ble_eq_true hN
      rw [add0_eq] at hN
      refine ⟨_, h4, fun κ wd M hR hMf len cap u hv hcl ys hys => ?_⟩
      have hM : M n = some (.cells (pre ++ .arr w N f us :: post) true tip) := by rw [hMf]; exact hf
      have hyl : ys.length = cnt * w := (arr_parts.1 hys).1
      have hone := (arr_parts.1 hys).2.1
      rcases hR.row n _ hM with ⟨g1, g2⟩ | ⟨b, zs, rest, e, fr, g1, g2, g3, g4, g5, g6, g7⟩
      · have hl0 : len = 0 := by
          cases hv with
          | slc _ _ _ _ _ _ _ b cap' a k1 k2 k3 k4 _ => rw [g1] at k1; cases k1
          | slc0 _ _ _ _ _ k1 _ => rfl
        have hc0 : cnt = 0 := by omega
        subst hc0
        have hy0 : ys = [] := by simpa using hyl
        subst hy0
        obtain ⟨q1, q2⟩ := chunk_mid g2 hys hN
        have e0 : splice ([] : List Value) (cw pre + i * w) [] = [] := by simp [splice]
        rw [e0] at q1
        refine .inl ⟨rfl, ⟨hR.szlt, hR.stable, fun m' r' hm' => ?_, fun m1 m2 r1 r2 b h1 h2 h3 h4 h5 => ?_⟩, (fun _ _ h => .inl h), rfl, rfl, rfl, Nat.le_refl _, fun _ _ _ => rfl, fun b hb ho => ?_⟩
        · by_cases e : m' = n
          · subst e; rw [Mem.set_same] at hm'; cases hm'; exact .inl ⟨g1, q1⟩
          · rw [Mem.set_ne _ _ e] at hm'; exact hR.row m' r' hm'
        · by_cases e : m1 = n
          · subst e; rw [g1] at h3; cases h3
          · by_cases e' : m2 = n
            · subst e'; rw [g1] at h4; cases h4
            · rw [Mem.set_ne _ _ e] at h1; rw [Mem.set_ne _ _ e'] at h2
              exact hR.inj m1 m2 r1 r2 b h1 h2 h3 h4 h5
        · obtain ⟨m', r', a1, a2, a3⟩ := ho
          by_cases e : m' = n
          · subst e; rw [g1] at a3; cases a3
          · rw [Mem.set_ne _ _ e] at a1; exact ⟨m', r', a1, a2, a3⟩
      · obtain ⟨hfr, hst⟩ := g5 rfl
        obtain ⟨q1, q2⟩ := chunk_mid g3 hys hN
        have hrow : ∀ wd' : World, wd'.heap[b]? = some (.cells (splice zs (cw pre + i * w) ys ++ rest).toArray e fr) → RowRel κ wd' n (.cells (pre ++ .arr w N (midF i cnt us f vs g) [] :: post) true tip) := fun wd' hb =>
          .inr ⟨b, _, rest, e, fr, g1, hb, q1, g4, fun _ => ⟨hfr.len (by simp [splice_length _ _ _ q2]), hst⟩, (fun h => by cases h), by rw [g7]; simp [splice_length _ _ _ q2]⟩
        obtain ⟨k1, k2⟩ := hR.put hM rfl g1 (hrow (World.putBlk wd b (.cells (splice zs (cw pre + i * w) ys ++ rest).toArray e fr)) (putBlk_same g2))
        by_cases hc0 : cnt = 0
        · subst hc0
          have hy0 : ys = [] := by simpa using hyl
          subst hy0
          have e0 : splice zs (cw pre + i * w) ([] : List Value) = zs := by simp [splice]
          rw [e0, putBlk_id g2] at k1 k2
          exact .inl ⟨rfl, k1, k2⟩
        · cases hv with
          | slc0 _ _ _ _ _ k1 _ => omega
          | slc _ _ _ _ _ _ _ b' cap' a p1 p2 p3 p4 _ =>
            rw [g1] at p1; cases p1
            obtain ⟨ha, _⟩ := p2.resolve_left (by omega)
            subst ha
            have hoff : plen [] + o + i * w = cw pre + i * w := by simp [plen, h1]
            rw [hoff]
            refine .inr ⟨b, cw pre + i * w, cap', _, rfl, ?_, k1, k2⟩
            have := run_storeCells (P := P) (cw pre + i * w) ys 0 (zs ++ rest).toArray wd g2 (hfr.len (by simp)) (by simp; omega) hone
            rw [this]
            congr 4
            unfold splice
            simp only [Nat.add_zero, List.take_append_of_le_length (show cw pre + i * w ≤ zs.length by omega), List.drop_append_of_le_length q2, List.append_assoc]
    · cases h2
  · cases h
end
end Go.Sv
