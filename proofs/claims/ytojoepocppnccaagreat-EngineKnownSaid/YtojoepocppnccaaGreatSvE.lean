/- A second evaluator for the model's code: every operation that calls no function of the program. -/
import Derived.Test.YtojoepocppnccaaGreatSvN
import Derived.Test.YtojoepocppnccaaGreatSvD2
import Derived.Test.YtojoepocppnccaaGreatSvD3
namespace Go.Sv
noncomputable section
open Go.RowKit
variable {P : Program}

theorem clearE_ok (hZ : ZerosOk P) {R : Type} {o : Oper} {c : Call} {x : Operand} (ho : o.op = .call c) (hc : c.callee = .builtin .clear) (hx0 : c.args.toList = [x]) {t : TypeId} (ht0 : c.argTypes.toList = [t]) {E : Env} {m : List (Nat × Row)} {k : Ent → Option R} {r : R} (h : clearE P t x E m k = some r) {next : Nat} :
    ∃ e, k e = some r ∧ OpOk P o E next (find m) e := by
  have e1 : c.args = #[x] := by apply Array.ext'; simpa using hx0
  have e2 : c.argTypes = #[t] := by apply Array.ext'; simpa using ht0
  have hmx : x ∈ o.op.operands := by rw [ho]; simp [Op.operands, Call.operands, hc, e1]
  have callRun : ∀ {a : Act} {w w' : World} {v : Value}, (Builtin.clear_ #[t] o.type #[a.eval x]).run P w = .ok v w' → (execOp a.eval o).run P w = .ok (.value v) w' := by
    intro a w w' v h
    simp only [execOp, ho]
    unfold resolve
    rw [hc, e1, e2]
    refine (run_bind_ok (a := ⟨.builtin .clear #[t] o.type _, #[a.eval x]⟩) (w' := w) (by simp; rfl)).trans ?_
    unfold invoke builtin
    exact run_value h
  unfold clearE at h
  split at h
  · rename_i e ht
    split at h
    · rename_i it hi
      split at h
      · rename_i z hz
        split at h
        · rename_i zc hzc
          split at h
          · rename_i n o' i W len cap hx
            obtain ⟨hb, h⟩ := cond_some h
            simp only [Bool.and_eq_true] at hb
            have hs1 := Nat.le_of_ble_eq_true hb.1
            have hW := Nat.eq_of_beq_eq_true hb.2.1
            have hcw := Nat.eq_of_beq_eq_true hb.2.2
            obtain ⟨row, h1, h2⟩ := setElsK_ok (P := P) h
            refine ⟨_, h1, fun κ a w M K Q hA hR hrd hfr hK => ?_⟩
            have hzz := zero_of_info hi hz
            obtain ⟨hzs, hzr⟩ := zeros_rel hZ hzc hzz hcw (by omega) len κ
            have hv := hA x hmx _ hx
            have hu : qrun P (underlying t) = some (.slice e) := by simp [underlying, program, bind, Sem.bind, qrun, ht, pure]
            rw [hW] at h2 hv
            rcases h2 κ w M hR (hrd n (List.mem_singleton.2 rfl)) hv (Nat.le_refl _) hzr with ⟨h0, k1, k2⟩ | ⟨b, off, cap', wd', hu', hst, k1, k2⟩
            · subst h0
              refine wp_value (callRun ?_) (hK κ (.tuple #[]) w (Kap.le_refl κ) (fun _ _ => rfl) (.tup [] [] .nil .nil) k1 k2)
              generalize a.eval x = u at hv
              unfold Builtin.clear_
              refine (run_q hu).trans ?_
              cases hv <;> rfl
            · refine wp_value (callRun ?_) (hK κ (.tuple #[]) wd' (Kap.le_refl κ) (fun _ _ => rfl) (.tup [] [] .nil .nil) k1 k2)
              rw [hu']
              unfold Builtin.clear_
              refine (run_q hu).trans ?_
              by_cases h0 : len = 0
              · subst h0
                have : ((Array.range (0 * it.size)).map (z.cells[· % z.cells.size]!)).toList = [] := by simp
                rw [this] at hst
                have : wd' = w := by simp [storeCells, pure] at hst; exact hst.symm
                rw [this]; rfl
              · obtain ⟨j, rfl⟩ : ∃ j, len = j + 1 := ⟨len - 1, by omega⟩
                refine (run_q hzz).trans ?_
                refine (run_bind_ok (a := ()) (w' := wd') ?_).trans rfl
                have : (Builtin.zeroCells z.cells (j + 1)).toList = ((Array.range ((j + 1) * it.size)).map (z.cells[· % z.cells.size]!)).toList := by
                  unfold Builtin.zeroCells; rw [hzs]
                rw [this]
                exact hst
          · cases h
        · cases h
      · cases h
    · cases h
  · cases h


theorem copyE_ok {R : Type} {o : Oper} {c : Call} {x y : Operand} (ho : o.op = .call c) (hc : c.callee = .builtin .copy) (hx0 : c.args.toList = [x, y]) {t tx : TypeId} (ht0 : c.argTypes.toList = [t, tx]) {E : Env} {m : List (Nat × Row)} {k : Ent → Option R} {r : R} (h : copyE P t tx x y E m k = some r) {next : Nat} :
    ∃ e, k e = some r ∧ OpOk P o E next (find m) e := by
  have e1 : c.args = #[x, y] := by apply Array.ext'; simpa using hx0
  have hmx : x ∈ o.op.operands := by rw [ho]; simp [Op.operands, Call.operands, hc, e1]
  have hmy : y ∈ o.op.operands := by rw [ho]; simp [Op.operands, Call.operands, hc, e1]
  unfold copyE at h
  split at h
  · rename_i e ht
    split at h
    · rename_i it hi
      split at h
      · rename_i yv hy
        obtain ⟨hb, h⟩ := cond_some h
        simp only [Bool.and_eq_true] at hb
        obtain ⟨W, f, us, cnt, rd, h1, hsrc⟩ := srcK_ok h
        obtain ⟨hW, h2⟩ := cond_some h1
        have hW : W = it.size ∨ cnt = 0 := by
          cases hbw : Nat.beq W it.size
          · rw [hbw] at hW; exact .inr (Nat.eq_of_beq_eq_true (by simpa using hW))
          · exact .inl (Nat.eq_of_beq_eq_true hbw)
        split at h2
        · rename_i n o' i w0 len cap hx
          obtain ⟨hw, h3⟩ := cond_some h2
          obtain ⟨hle, h4⟩ := cond_some h3
          have hw := Nat.eq_of_beq_eq_true hw
          have hle := Nat.le_of_ble_eq_true hle
          obtain ⟨row, h5, h6⟩ := setElsK_ok (P := P) h4
          refine ⟨_, h5, fun κ a w M K Q hA hR hrd hfr hK => ?_⟩
          obtain ⟨news, hcn, hsr⟩ := (hsrc κ w M _ hR (fun n' hn' => hrd n' (List.mem_cons_of_mem _ hn')) (hA y hmy _ hy)).src hb.1 (hA y hmy _ hy) hW
          have hv := hA x hmx _ hx
          have hu : qrun P (underlying t) = some (.slice e) := by simp [underlying, program, bind, Sem.bind, qrun, ht, pure]
          have hsi : qrun P (sizeOf e) = some it.size := by simp [sizeOf, typeInfo, program, bind, Sem.bind, qrun, hi, pure]
          rw [hw] at h6 hv
          have hmin : Nat.min cnt len = cnt := Nat.min_eq_left hle
          rcases h6 κ w M hR (hrd n (List.mem_cons_self ..)) hv hle hcn with ⟨h0, k1, k2⟩ | ⟨b, off, cap', wd', hu', hst, k1, k2⟩
          · have hnil : news = [] := by have := hsr.newsLen; rw [h0] at this; simpa using this
            refine wp_value (callRun2 ho hc hx0 ht0 fun consts => run_value ?_) (hK κ (.int .i64 (cnt : Int)) w (Kap.le_refl κ) (fun _ _ => rfl) (.int _ _ .nil) k1 k2)
            generalize a.eval x = u at hv
            unfold Builtin.copy_
            refine (run_q hu).trans ?_
            have hcells := hsr.cells
            rw [hnil] at hcells
            cases hv with
            | slc _ _ _ _ _ _ _ b cap' ad g1 g2 g3 g4 _ =>
              refine (run_bind_ok (hsr.len w)).trans ?_
              rw [hmin]
              refine (run_q hsi).trans ?_
              refine (run_bind_ok hcells).trans ?_
              rfl
            | slc0 _ _ _ _ _ g1 _ =>
              refine (run_bind_ok (hsr.len w)).trans ?_
              rw [hmin]
              refine (run_q hsi).trans ?_
              refine (run_bind_ok hcells).trans ?_
              rfl
          · refine wp_value (callRun2 ho hc hx0 ht0 fun consts => run_value ?_) (hK κ (.int .i64 (cnt : Int)) wd' (Kap.le_refl κ) (fun _ _ => rfl) (.int _ _ .nil) k1 k2)
            rw [hu']
            unfold Builtin.copy_
            refine (run_q hu).trans ?_
            refine (run_bind_ok (hsr.len w)).trans ?_
            rw [hmin]
            refine (run_q hsi).trans ?_
            refine (run_bind_ok hsr.cells).trans ?_
            exact (run_bind_ok hst).trans rfl
        · cases h2
      · cases h
    · cases h
  · cases h

/-! ### places in rows whose cells lie flat -/
section
variable {R : Type}
def natK (n : Nat) (k : Nat → Option R) : Option R :=
  match n with
  | 0 => k 0
  | m + 1 => k (m + 1)
theorem natK_eq (n : Nat) (k : Nat → Option R) : natK n k = k n := by cases n <;> rfl
end
/-- Do an array's elements lie flat there? -/
def flatAt (m : List (Nat × Row)) (n : Nat) (ps : List (Nat × Nat × Nat)) (o i w : Nat) : Bool :=
  match find m n with
  | some (.cells c _ _) => match walk c ps with
    | some c1 => match dropW c1 o with
      | some (.arr w' N _ _ :: _) => !(Nat.beq w w' && Nat.blt i N)
      | some (_ :: _) => true
      | _ => false
    | none => false
  | _ => false
def normE {R : Type} (m : List (Nat × Row)) (e : Ent) (k : Ent → Option R) : Option R :=
  match e.v with
  | .ptr n ps o => match lastS ps with
    | some (ps0, (o0, i, w)) => bif flatAt m n ps0 o0 i w then natK (o0 + i * w + o) fun q => k ⟨.ptr n ps0 q, e.eff, e.nx, e.rd⟩ else k e
    | none => k e
  | _ => k e
theorem normE_ok {R : Type} {o : Oper} {E : Env} {m : Mem} {ml : List (Nat × Row)} {v : AV} {k : Ent → Option R} {r : R} (hv : StillOk P o E m v []) (h : normE ml ⟨v, [], 0, []⟩ k = some r) : ∃ v', k ⟨v', [], 0, []⟩ = some r ∧ StillOk P o E m v' [] := by
  unfold normE at h
  dsimp only at h
  split at h
  · rename_i n ps q
    split at h
    · rename_i ps0 o0 i w hl
      have hps := lastS_eq hl
      cases hf : flatAt ml n ps0 o0 i w with
      | false => rw [hf] at h; exact ⟨_, h, hv⟩
      | true =>
        rw [hf, cond_true] at h
        rw [natK_eq] at h
        have h' : k ⟨.ptr n ps0 (o0 + i * w + q), [], 0, []⟩ = some r := h
        refine ⟨_, h', fun κ a wd M hA hR hrd => ?_⟩
        obtain ⟨u, h1, h2⟩ := hv κ a wd M hA hR hrd
        refine ⟨u, ?_, h2⟩
        cases h1 with
        | ptr _ p _ b _ h3 h4 h5 =>
          cases h5
          exact .ptr n p _ b ps0 h3 (by rw [h4, hps, plen_append]; simp [plen]; omega) .nil
    · exact ⟨_, h, hv⟩
  · exact ⟨_, h, hv⟩

section
variable {R : Type} (P)
/-- An operation that calls no function of the program. -/
def opE (o : Oper) (E : Env) (st : AS) (k : Ent → Option R) : Option R :=
  match o.op with
  | .move x => moveE x E k
  | .assign x => moveE x E k
  | .pick c x y => pickE c x y E k
  | .binOp op t x y _ => cmpE P o op t x y E st.mem k
  | .load t x => loadXE P t x E st.mem k
  | .sliceToArrayPointer t x => toArrE P t x E k
  | .fieldAddr s x f => fieldAddrE P s x f E k
  | .extract x i => extractE x i E k
  | .indexAddr t x y => indexAddrE P t x y E fun e => normE st.mem e k
  | .store t x y => storeE P t x y E st.mem k
  | .alloc t => allocE P t st k
  | .box _ x => boxE x E st k
  | .build t parts => match P.underlying t with
    | some (.array _ _) => buildArrE P t parts E st.mem k
    | _ => structE P t parts E k
  | .buildSlice t len parts => buildSliceE P t len parts E st k
  | .index t x y => indexE P t x y E k
  | .field t x f => fieldE P t x f E k
  | .slice t x lo hi mx => sliceE P t x lo hi mx E st.mem k
  | .makeSlice t x y => makeSliceE P t x y E st k
  | .nilCheck x => nilCheckE P o x E k
  | .makeInterface t x => makeInterfaceE P t x E k
  | .makeFunc fn first captured => makeFuncE fn first captured E k
  | .makeMap t rv => makeMapE P t rv E st k
  | .lookup t x ix ok => lookupE P t x ix ok E st.mem k
  | .mapUpdate t x ix y => mapUpdateE P t x ix y E st.mem k
  | .insert t x ix y => mapUpdateE P t x ix y E st.mem k
  | .call c => match c.callee with
    | .builtin .delete => match c.args.toList with
      | [x, ix] => match c.argTypes.toList with
        | [t, _] => deleteE P t x ix E st.mem k
        | _ => none
      | _ => none
    | .builtin .len => match c.args.toList with
      | [x] => match c.argTypes.toList with
        | [t] => match aeval E x with
          | some (.mp _) => lenMapE P t x E st.mem k
          | _ => lenE P o t x E k
        | _ => none
      | _ => none
    | .builtin .append => match c.args.toList with
      | [x, y] => match c.argTypes.toList with
        | [t, tx] => bif flatElem P t then appendFE P t tx x y E st k else appendE P t tx x y E st k
        | _ => none
      | _ => none
    | .builtin .min => minE P o false c.args.toList E k
    | .builtin .max => minE P o true c.args.toList E k
    | .builtin .copy => match c.args.toList with
      | [x, y] => match c.argTypes.toList with
        | [t, tx] => copyE P t tx x y E st.mem k
        | _ => none
      | _ => none
    | .builtin .clear => match c.args.toList with
      | [x] => match c.argTypes.toList with
        | [t] => clearE P t x E st.mem k
        | _ => none
      | _ => none
    | _ => pureE P o E k
  | _ => pureE P o E k
end
theorem opE_ok (hZ : ZerosOk P) (hT : FlatOk P) {R : Type} {o : Oper} {E : Env} {st : AS} {k : Ent → Option R} {r : R} (h : opE P o E st k = some r) :
    ∃ e, k e = some r ∧ OpOk P o E st.next (find st.mem) e := by
  have still : (∃ v, k ⟨v, [], 0, []⟩ = some r ∧ ∀ m, StillOk P o E m v []) → ∃ e, k e = some r ∧ OpOk P o E st.next (find st.mem) e := fun ⟨v, h1, h2⟩ => ⟨_, h1, (h2 _).op⟩
  have look : (∃ v rd, k ⟨v, [], 0, rd⟩ = some r ∧ StillOk P o E (find st.mem) v rd) → ∃ e, k e = some r ∧ OpOk P o E st.next (find st.mem) e := fun ⟨v, rd, h1, h2⟩ => ⟨_, h1, h2.op⟩
  unfold opE at h
  split at h
  · rename_i x ho; exact still (moveE_ok (.inl ho) h)
  · rename_i x ho; exact still (moveE_ok (.inr ho) h)
  · rename_i ho; exact still (pickE_ok ho h)
  · rename_i ho; exact look (cmpE_ok hT ho h)
  · rename_i ho; exact look (loadXE_ok ho h)
  · rename_i ho; exact still (toArrE_ok ho h)
  · rename_i ho; exact still (fieldAddrE_ok ho h)
  · rename_i ho; exact still (extractE_ok ho h)
  · rename_i ho
    obtain ⟨v, h1, h2⟩ := indexAddrE_ok ho h
    obtain ⟨v', h3, h4⟩ := normE_ok (h2 (find st.mem)) h1
    exact ⟨_, h3, h4.op⟩
  · rename_i ho; exact storeE_ok ho h
  · rename_i ho; exact allocE_ok hZ ho h
  · rename_i ho; exact boxE_ok ho h
  · rename_i ho
    split at h
    · exact still (buildArrE_ok hZ ho h)
    · exact still (structE_ok hZ ho h)
  · rename_i ho; exact buildSliceE_ok hZ ho h
  · rename_i ho; exact still (indexE_ok ho h)
  · rename_i ho; exact still (fieldE_ok ho h)
  · rename_i ho; exact look (sliceE_ok ho h)
  · rename_i ho; exact makeSliceE_ok hZ ho h
  · rename_i ho; exact still (nilCheckE_ok ho h)
  · rename_i ho; exact still (makeInterfaceE_ok ho h)
  · rename_i ho; exact still (makeFuncE_ok ho h)
  · rename_i ho; exact makeMapE_ok ho h
  · rename_i ho; exact look (lookupE_ok hZ ho h)
  · rename_i ho; exact mapUpdateE_ok (.inl ho) h
  · rename_i ho; exact mapUpdateE_ok (.inr ho) h
  · rename_i c ho
    split at h
    · rename_i hc
      split at h
      · rename_i x ix hx
        split at h
        · rename_i t tx ht; exact deleteE_ok ho hc hx ht h
        · cases h
      · cases h
    · rename_i hc
      split at h
      · rename_i x hx
        split at h
        · rename_i t ht
          split at h
          · exact look (lenMapE_ok ho hc hx ht h)
          · exact still (lenE_ok ho hc hx ht h)
        · cases h
      · cases h
    · rename_i hc
      split at h
      · rename_i x y hx
        split at h
        · rename_i t tx ht
          cases hf : flatElem P t with
          | true => rw [hf] at h; exact appendFE_ok hZ ho hc hx ht h
          | false => rw [hf] at h; exact appendE_ok hZ ho hc hx ht h
        · cases h
      · cases h
    · rename_i hc; exact still (minE_ok (isMax := false) ho hc h)
    · rename_i hc; exact still (minE_ok (isMax := true) ho hc h)
    · rename_i hc
      split at h
      · rename_i x y hx
        split at h
        · rename_i t tx ht; exact copyE_ok ho hc hx ht h
        · cases h
      · cases h
    · rename_i hc
      split at h
      · rename_i x hx
        split at h
        · rename_i t ht; exact clearE_ok hZ ho hc hx ht h
        · cases h
      · cases h
    · exact still (pureE_ok h)
  · exact still (pureE_ok h)
end
end Go.Sv
