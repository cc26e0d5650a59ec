/- A second evaluator for the model's code: parts of lists, new lists, clearing, copying. -/
import Derived.Test.YtojoepocppnccaaGreatSvB
namespace Go.Sv
noncomputable section
open Go.RowKit
variable {P : Program}

def sub0 (a b : Nat) : Nat := bif Nat.beq b 0 then a else a - b
theorem sub0_eq (a b : Nat) : sub0 a b = a - b := by
  unfold sub0
  cases h : Nat.beq b 0
  · rfl
  · have := Nat.eq_of_beq_eq_true h; subst this; simp
section
variable {R : Type} (P)
def boundK (x : Option Operand) (dflt : Nat) (E : Env) (hi : Nat) (k : Nat → Option R) : Option R :=
  match x with
  | none => k dflt
  | some op => match aeval E op with
    | some (.int _ i) => bif decide (0 ≤ i) then bif decide (i ≤ (hi : Int)) then k i.toNat else none else none
    | _ => none
def slice3E (t : TypeId) (x : Operand) (lo hi mx : Option Operand) (E : Env) (k : Ent → Option R) : Option R :=
  match hi, mx with
  | some hi, some mx => match qrun P (underlying t) with
    | some (.slice e) => match qrun P (sizeOf e) with
      | some s => match aeval E x with
        | some (.slc n ps o i0 w _ cap) => bif Nat.beq s w then boundK (some mx) 0 E cap fun mv => boundK (some hi) 0 E mv fun h => boundK lo 0 E h fun l => k ⟨.slc n ps o (add0 i0 l) w (sub0 h l) (sub0 mv l), [], 0, []⟩ else none
        | _ => none
      | none => none
    | _ => none
  | _, _ => none
def sliceE (t : TypeId) (x : Operand) (lo hi mx : Option Operand) (E : Env) (m : List (Nat × Row)) (k : Ent → Option R) : Option R :=
  match mx with
  | some mx' => slice3E P t x lo hi (some mx') E k
  | none => match qrun P (underlying t) with
    | some (.slice e) => match qrun P (sizeOf e) with
      | some s => match aeval E x with
        | some (.slc n ps o i0 w len cap) => bif Nat.beq s w then boundK hi len E cap fun h => boundK lo 0 E h fun l => k ⟨.slc n ps o (add0 i0 l) w (sub0 h l) (sub0 cap l), [], 0, []⟩ else none
        | some (.lst w f len us) => bif Nat.beq s w then boundK hi len E len fun h => boundK lo 0 E h fun l =>
            bif Nat.beq l 0 then k ⟨.lst w f h us, [], 0, []⟩ else k ⟨.lst w (fun j => elt us f (l + j)) (h - l) [], [], 0, []⟩ else none
        | _ => none
      | none => none
    | some .string => match aeval E x with
      | some (.str l0) => boundK hi l0.length E l0.length fun h => boundK lo 0 E h fun l => k ⟨.str ((l0.take h).drop l), [], 0, []⟩
      | _ => none
    | some (.array N e) => match qrun P (sizeOf e) with
      | some s => match aeval E x with
        | some (.ptr n ps o) => match find m n with
          | some (.cells c _ _) => walkK c ps fun c' => match dropW c' o with
            | some (.arr w N' _ _ :: _) => bif Nat.beq s w && Nat.beq N N' then boundK hi N E N fun h => boundK lo 0 E h fun l => k ⟨.slc n ps o l w (sub0 h l) (sub0 N l), [], 0, [n]⟩ else none
            | _ => none
          | _ => none
        | _ => none
      | none => none
    | _ => none
end

theorem boundK_some {R : Type} {x : Option Operand} {dflt hi : Nat} {E : Env} {k : Nat → Option R} {r : R} (h : boundK x dflt E hi k = some r) :
    ∃ n, k n = some r ∧ ((x = none ∧ n = dflt) ∨ ∃ op kd i, x = some op ∧ aeval E op = some (.int kd i) ∧ 0 ≤ i ∧ i ≤ (hi : Int) ∧ n = i.toNat) := by
  unfold boundK at h
  split at h
  · exact ⟨_, h, .inl ⟨rfl, rfl⟩⟩
  · rename_i op
    split at h
    · rename_i kd i hop
      obtain ⟨h0, h⟩ := cond_some h
      obtain ⟨h1, h⟩ := cond_some h
      exact ⟨_, h, .inr ⟨op, kd, i, rfl, hop, of_decide_eq_true h0, of_decide_eq_true h1, rfl⟩⟩
    · cases h
/-- What bounds come to. -/
theorem bounds_run {isSlice : Bool} {len cap : Nat} {lo hi : Option Value} {h l : Nat} {w : World} (hh : (hi = none ∧ h = len) ∨ ∃ kd i, hi = some (.int kd i) ∧ 0 ≤ i ∧ i ≤ (cap : Int) ∧ h = i.toNat)
    (hl : (lo = none ∧ l = 0) ∨ ∃ kd i, lo = some (.int kd i) ∧ 0 ≤ i ∧ i ≤ (h : Int) ∧ l = i.toNat) : (Instr.sliceBounds isSlice len cap lo hi none).run P w = .ok (l, h, cap) w := by
  unfold Instr.sliceBounds
  refine (run_bind_ok (e := (pure cap : Sem Nat)) (a := cap) (w' := w) rfl).trans ?_
  have h2 : ∀ {v : Nat} {code : BoundsCode} {kd : IntKind} {i : Int}, 0 ≤ i → i ≤ (v : Int) → (Instr.sliceBound (.int kd i) v code).run P w = .ok i.toNat w := by
    intro v code kd i a b
    unfold Instr.sliceBound
    refine (run_bind_ok (e := asIntOf (.int kd i)) (a := (kd, i)) (w' := w) rfl).trans ?_
    simp only [a, b, and_self, if_true]; rfl
  rcases hh with ⟨rfl, rfl⟩ | ⟨kd, i, rfl, a, b, rfl⟩
  · refine (run_bind_ok (e := (pure h : Sem Nat)) (a := h) (w' := w) rfl).trans ?_
    rcases hl with ⟨rfl, rfl⟩ | ⟨kd, i, rfl, a, b, rfl⟩
    · rfl
    · exact (run_bind_ok (h2 a b)).trans rfl
  · refine (run_bind_ok (h2 a b)).trans ?_
    rcases hl with ⟨rfl, rfl⟩ | ⟨kd, i', rfl, a', b', rfl⟩
    · rfl
    · exact (run_bind_ok (h2 a' b')).trans rfl

theorem bounds3_run {isSlice : Bool} {len cap : Nat} {lo : Option Value} {km kh : IntKind} {m' h' : Int} {h l m : Nat} {w : World} (hm : 0 ≤ m' ∧ m' ≤ (cap : Int) ∧ m = m'.toNat) (hh : 0 ≤ h' ∧ h' ≤ (m : Int) ∧ h = h'.toNat)
    (hl : (lo = none ∧ l = 0) ∨ ∃ kd i, lo = some (.int kd i) ∧ 0 ≤ i ∧ i ≤ (h : Int) ∧ l = i.toNat) : (Instr.sliceBounds isSlice len cap lo (some (.int kh h')) (some (.int km m'))).run P w = .ok (l, h, m) w := by
  unfold Instr.sliceBounds
  have h2 : ∀ {v : Nat} {code : BoundsCode} {kd : IntKind} {i : Int}, 0 ≤ i → i ≤ (v : Int) → (Instr.sliceBound (.int kd i) v code).run P w = .ok i.toNat w := by
    intro v code kd i a b
    unfold Instr.sliceBound
    refine (run_bind_ok (e := asIntOf (.int kd i)) (a := (kd, i)) (w' := w) rfl).trans ?_
    simp only [a, b, and_self, if_true]; rfl
  obtain ⟨m1, m2, rfl⟩ := hm
  obtain ⟨h1, h3, rfl⟩ := hh
  refine (run_bind_ok (h2 m1 m2)).trans ?_
  refine (run_bind_ok (h2 h1 h3)).trans ?_
  rcases hl with ⟨rfl, rfl⟩ | ⟨kd, i, rfl, a, b, rfl⟩
  · rfl
  · exact (run_bind_ok (h2 a b)).trans rfl
theorem slice3E_ok {R : Type} {o : Oper} {t : TypeId} {x : Operand} {lo hi mx : Option Operand} (ho : o.op = .slice t x lo hi mx) {E : Env} {m : List (Nat × Row)} {k : Ent → Option R} {r : R} (h : slice3E P t x lo hi mx E k = some r) :
    ∃ v rd, k ⟨v, [], 0, rd⟩ = some r ∧ StillOk P o E (find m) v rd := by
  unfold slice3E at h
  split at h
  · rename_i hi' mx'
    have hmx : x ∈ o.op.operands := by rw [ho]; simp [Op.operands]
    have hmlo : ∀ op, lo = some op → op ∈ o.op.operands := fun op e => by rw [ho, e]; simp [Op.operands]
    have hmhi : hi' ∈ o.op.operands := by rw [ho]; simp [Op.operands]
    have hmmx : mx' ∈ o.op.operands := by rw [ho]; simp [Op.operands]
    split at h
    · rename_i e ht
      split at h
      · rename_i s hs
        split at h
        · rename_i n ps o' i0 w0 len cap hx
          obtain ⟨hw, h0⟩ := cond_some h
          have hw := Nat.eq_of_beq_eq_true hw
          obtain ⟨mv, h1, hm⟩ := boundK_some h0
          obtain ⟨hv, h2, hh⟩ := boundK_some h1
          obtain ⟨lv, h3, hl⟩ := boundK_some h2
          clear h h0 h1 h2
          obtain ⟨opm, km, im, em, am, m1, m2, m3⟩ : ∃ op kd i, some mx' = some op ∧ aeval E op = some (.int kd i) ∧ 0 ≤ i ∧ i ≤ (cap : Int) ∧ mv = i.toNat := by
            rcases hm with ⟨h, _⟩ | h
            · cases h
            · exact h
          obtain ⟨oph, kh, ih, eh, ah, h1, h2, h4⟩ : ∃ op kd i, some hi' = some op ∧ aeval E op = some (.int kd i) ∧ 0 ≤ i ∧ i ≤ (mv : Int) ∧ hv = i.toNat := by
            rcases hh with ⟨h, _⟩ | h
            · cases h
            · exact h
          cases em; cases eh
          have hmc : mv ≤ cap := by omega
          have hhm : hv ≤ mv := by omega
          have hlle : lv ≤ hv := by rcases hl with ⟨_, e⟩ | ⟨op, kd, i, _, _, q0, q1, e⟩ <;> omega
          refine ⟨_, [], h3, fun κ a w M hA hR _ => ?_⟩
          have hp := hA x hmx _ hx
          generalize hea : a.eval x = ev at hp
          have run : ∀ (ao : Option Addr) (cap' : Nat), ev = .slice ao len cap' → cap ≤ cap' → (execOp a.eval o).run P w = .ok (.value (.slice (if mv = lv then ao else ao.map (·.add (lv * s))) (hv - lv) (mv - lv))) w := by
            intro ao cap' hev hc
            have v2 : (lo.map a.eval = none ∧ lv = 0) ∨ ∃ kd i, lo.map a.eval = some (.int kd i) ∧ 0 ≤ i ∧ i ≤ (hv : Int) ∧ lv = i.toNat := by
              rcases hl with ⟨rfl, e⟩ | ⟨op, kd, i, rfl, e, q⟩
              · exact .inl ⟨rfl, e⟩
              · exact .inr ⟨kd, i, by simp [int_of (hA op (hmlo op rfl) _ e)], q⟩
            have em := int_of (hA _ hmmx _ am)
            have eh := int_of (hA _ hmhi _ ah)
            simp only [execOp, ho]
            refine run_value ?_
            unfold Instr.sliceAt
            refine (run_q ht).trans ?_
            simp only [Option.map_some]
            unfold Instr.slice
            refine (run_q ht).trans ?_
            simp only [hea, hev, em, eh]
            refine (run_bind_ok (bounds3_run (P := P) (m := mv) (h := hv) (l := lv) ⟨m1, by omega, m3⟩ ⟨h1, h2, h4⟩ v2)).trans ?_
            exact (run_q hs).trans rfl
          cases hp with
          | slc _ _ _ _ _ _ _ b cap' ad g3 g4 g5 g6 _ =>
            refine ⟨_, ?_, run (some ad) cap' rfl g5⟩
            clear run hA hR hl hm hh m1 m2 m3 h1 h2 h4 am ah
            have hmc' := Nat.le_trans hmc g5
            simp only [sub0_eq, add0_eq]
            by_cases hm : mv = lv
            · rw [if_pos hm]
              exact .slc _ _ _ _ _ _ _ b _ _ g3 (.inl (by rw [hm, Nat.sub_self])) (Nat.le_refl _) (Nat.sub_le_sub_right hhm lv) .nil
            · rw [if_neg hm]
              have hlt : lv < mv := Nat.lt_of_le_of_ne (Nat.le_trans hlle hhm) (Ne.symm hm)
              obtain ⟨e1, sz, e2, e3⟩ := g4.resolve_left (Nat.ne_of_gt (Nat.lt_of_le_of_lt (Nat.zero_le _) (Nat.lt_of_lt_of_le hlt hmc')))
              subst e1
              clear g4
              simp only [Option.map_some, addr_add]
              refine .slc _ _ _ _ _ _ _ b _ _ g3 (.inr ⟨by rw [hw, Nat.add_mul]; simp only [Addr.mk.injEq, and_true, true_and]; omega, sz, e2, ?_⟩) (Nat.le_refl _) (Nat.sub_le_sub_right hhm lv) .nil
              have q1 : (i0 + lv) * w0 + (mv - lv) * w0 = i0 * w0 + mv * w0 := by rw [Nat.add_mul, Nat.sub_mul]; have := Nat.mul_le_mul_right w0 (Nat.le_of_lt hlt); omega
              have q2 := Nat.mul_le_mul_right w0 hmc'
              omega
          | slc0 _ _ _ _ _ g3 _ =>
            have m0 : mv = 0 := by omega
            have hv0 : hv = 0 := by omega
            have lv0 : lv = 0 := by omega
            subst m0; subst hv0; subst lv0
            refine ⟨_, ?_, run none 0 rfl (Nat.le_refl _)⟩
            exact .slc0 _ _ _ _ _ g3 .nil
        · cases h
      · cases h
    · cases h
  · cases h
theorem sliceE_ok {R : Type} {o : Oper} {t : TypeId} {x : Operand} {lo hi mx : Option Operand} (ho : o.op = .slice t x lo hi mx) {E : Env} {m : List (Nat × Row)} {k : Ent → Option R} {r : R} (h : sliceE P t x lo hi mx E m k = some r) :
    ∃ v rd, k ⟨v, [], 0, rd⟩ = some r ∧ StillOk P o E (find m) v rd := by
  unfold sliceE at h
  split at h
  · exact slice3E_ok ho h
  have hmx : x ∈ o.op.operands := by rw [ho]; simp [Op.operands]
  have hmlo : ∀ op, lo = some op → op ∈ o.op.operands := fun op e => by rw [ho, e]; simp [Op.operands]
  have hmhi : ∀ op, hi = some op → op ∈ o.op.operands := fun op e => by rw [ho, e]; simp [Op.operands]
  have vals : ∀ {hv lv dflt cap : Nat} (κ : Kap) (a : Act), AOn κ o E a → ((hi = none ∧ hv = dflt) ∨ ∃ op kd i, hi = some op ∧ aeval E op = some (.int kd i) ∧ 0 ≤ i ∧ i ≤ (cap : Int) ∧ hv = i.toNat) →
      ((lo = none ∧ lv = 0) ∨ ∃ op kd i, lo = some op ∧ aeval E op = some (.int kd i) ∧ 0 ≤ i ∧ i ≤ (hv : Int) ∧ lv = i.toNat) →
      ((hi.map a.eval = none ∧ hv = dflt) ∨ ∃ kd i, hi.map a.eval = some (.int kd i) ∧ 0 ≤ i ∧ i ≤ (cap : Int) ∧ hv = i.toNat) ∧ ((lo.map a.eval = none ∧ lv = 0) ∨ ∃ kd i, lo.map a.eval = some (.int kd i) ∧ 0 ≤ i ∧ i ≤ (hv : Int) ∧ lv = i.toNat) := by
    intro hv lv dflt cap κ a hA h1 h2
    refine ⟨?_, ?_⟩
    · rcases h1 with ⟨rfl, e⟩ | ⟨op, kd, i, rfl, e, h3⟩
      · exact .inl ⟨rfl, e⟩
      · exact .inr ⟨kd, i, by simp [int_of (hA op (hmhi op rfl) _ e)], h3⟩
    · rcases h2 with ⟨rfl, e⟩ | ⟨op, kd, i, rfl, e, h3⟩
      · exact .inl ⟨rfl, e⟩
      · exact .inr ⟨kd, i, by simp [int_of (hA op (hmlo op rfl) _ e)], h3⟩
  have lle : ∀ {hv lv : Nat}, ((lo = none ∧ lv = 0) ∨ ∃ op kd i, lo = some op ∧ aeval E op = some (.int kd i) ∧ 0 ≤ i ∧ i ≤ (hv : Int) ∧ lv = i.toNat) → lv ≤ hv := by
    intro hv lv h
    rcases h with ⟨_, e⟩ | ⟨op, kd, i, _, _, h0, h1, e⟩ <;> omega
  split at h
  · rename_i e ht
    split at h
    · rename_i s hs
      split at h
      · rename_i n ps o' i0 w0 len cap hx
        obtain ⟨hw, h⟩ := cond_some h
        have hw := Nat.eq_of_beq_eq_true hw
        obtain ⟨hv, h1, hh⟩ := boundK_some h
        obtain ⟨lv, h2, hl⟩ := boundK_some h1
        refine ⟨_, [], h2, fun κ a w M hA hR _ => ?_⟩
        have hlle := lle hl
        have hp := hA x hmx _ hx
        generalize hea : a.eval x = ev at hp
        have run : ∀ (ao : Option Addr) (cap' : Nat), ev = .slice ao len cap' → cap ≤ cap' → (execOp a.eval o).run P w = .ok (.value (.slice (if cap' = lv then ao else ao.map (·.add (lv * s))) (hv - lv) (cap' - lv))) w := by
          intro ao cap' hev hc
          obtain ⟨v1, v2⟩ := vals κ a hA (cap := cap') (hh.imp id fun ⟨op, kd, i, e1, e2, e3, e4, e5⟩ => ⟨op, kd, i, e1, e2, e3, by omega, e5⟩) hl
          simp only [execOp, ho]
          refine run_value ?_
          unfold Instr.sliceAt
          refine (run_q ht).trans ?_
          simp only [Option.map_none]
          unfold Instr.slice
          refine (run_q ht).trans ?_
          simp only [hea, hev]
          refine (run_bind_ok (bounds_run (P := P) v1 v2)).trans ?_
          exact (run_q hs).trans rfl
        have hvle : hv ≤ cap ∨ hv = len := by rcases hh with ⟨_, e⟩ | ⟨op, kd, i, _, _, h0, h1, e⟩ <;> omega
        cases hp with
        | slc _ _ _ _ _ _ _ b cap' ad h3 h4 h5 h6 _ =>
          refine ⟨_, ?_, run (some ad) cap' rfl h5⟩
          have hvc : hv ≤ cap' := by omega
          simp only [sub0_eq, add0_eq]
          by_cases hm : cap' = lv
          · rw [if_pos hm]
            exact .slc _ _ _ _ _ _ _ b _ _ h3 (.inl (by omega)) (by omega) (by omega) .nil
          · rw [if_neg hm]
            obtain ⟨e1, sz, e2, e3⟩ := h4.resolve_left (by omega)
            subst e1
            simp only [Option.map_some, addr_add]
            refine .slc _ _ _ _ _ _ _ b _ _ h3 (.inr ⟨by rw [hw, Nat.add_mul]; simp only [Addr.mk.injEq, and_true, true_and]; omega, sz, e2, ?_⟩) (by omega) (by omega) .nil
            have : (i0 + lv) * w0 + (cap' - lv) * w0 = i0 * w0 + cap' * w0 := by rw [Nat.add_mul, Nat.sub_mul]; have := Nat.mul_le_mul_right w0 (show lv ≤ cap' by omega); omega
            omega
        | slc0 _ _ _ _ _ h3 _ =>
          have hv0 : hv = 0 := by omega
          have lv0 : lv = 0 := by omega
          subst hv0; subst lv0
          refine ⟨_, ?_, run none 0 rfl (Nat.le_refl _)⟩
          exact .slc0 _ _ _ _ _ h3 .nil
      · rename_i w0 f len us hx
        obtain ⟨hw, h⟩ := cond_some h
        have hw := Nat.eq_of_beq_eq_true hw
        obtain ⟨hv, h1, hh⟩ := boundK_some h
        obtain ⟨lv, h2, hl⟩ := boundK_some h1
        have hlle := lle hl
        have hvle : hv ≤ len := by rcases hh with ⟨_, e⟩ | ⟨op, kd, i, _, _, h0, h1, e⟩ <;> omega
        have key : ∀ (g : Nat → List AV) (us' : List (Nat × List AV)) (ln : Nat), ln = hv - lv → (∀ j, elt us' g j = elt us f (lv + j)) → StillOk P o E (find m) (.lst w0 g ln us') [] := by
          intro g us' ln hln hg κ a w M hA hR _
          subst hln
          have hp := hA x hmx _ hx
          generalize hea : a.eval x = ev at hp
          have run : ∀ (ao : Option Addr) (cap' : Nat), ev = .slice ao len cap' → len ≤ cap' → (execOp a.eval o).run P w = .ok (.value (.slice (if cap' = lv then ao else ao.map (·.add (lv * s))) (hv - lv) (cap' - lv))) w := by
            intro ao cap' hev hc
            obtain ⟨v1, v2⟩ := vals κ a hA (cap := cap') (hh.imp id fun ⟨op, kd, i, e1, e2, e3, e4, e5⟩ => ⟨op, kd, i, e1, e2, e3, by omega, e5⟩) hl
            simp only [execOp, ho]
            refine run_value ?_
            unfold Instr.sliceAt
            refine (run_q ht).trans ?_
            simp only [Option.map_none]
            unfold Instr.slice
            refine (run_q ht).trans ?_
            simp only [hea, hev]
            refine (run_bind_ok (bounds_run (P := P) v1 v2)).trans ?_
            exact (run_q hs).trans rfl
          cases hp with
          | lst _ _ b off cap' _ _ cs h3 h4 h5 ho' h6 h7 _ =>
            refine ⟨_, ?_, run _ cap' rfl h5⟩
            by_cases h0 : hv - lv = 0
            · rw [h0]; exact .lst0 _ _ _ _ _ .nil
            · rw [if_neg (by omega)]
              simp only [Option.map_some, addr_add]
              have hle : (lv + (hv - lv)) * w0 ≤ len * w0 := Nat.mul_le_mul_right _ (by omega)
              rw [Nat.add_mul] at hle
              rw [hw]
              refine .lst _ _ b _ _ _ _ cs h3 (by omega) (by omega) (fun z hz => ho' z ?_) (fun j hj => by rw [hg]; exact h6 _ (by omega)) (fun j hj => ?_) .nil
              · have e1 : (cs.drop (off + lv * w0)).take ((hv - lv) * w0) = ((((cs.drop off).take (len * w0)).drop (lv * w0)).take ((hv - lv) * w0)) := by
                  rw [List.drop_take, List.take_take, List.drop_drop, Nat.min_eq_left (by omega)]
                rw [e1] at hz
                exact List.mem_of_mem_drop (List.mem_of_mem_take hz)
              · rw [hg]
                have := h7 (lv + j) (by omega)
                rw [Nat.add_mul] at this
                rw [show off + lv * w0 + j * w0 = off + (lv * w0 + j * w0) from by omega]
                exact this
          | lst0 _ cap' _ _ ao _ =>
            by_cases hm : hv = 0
            · subst hm
              have : lv = 0 := by omega
              subst this
              refine ⟨_, ?_, run ao cap' rfl (Nat.zero_le _)⟩
              exact .lst0 _ _ _ _ _ .nil
            · omega
        cases hb : Nat.beq lv 0 <;> rw [hb] at h2
        · exact ⟨_, [], h2, key _ [] _ rfl fun j => rfl⟩
        · have := Nat.eq_of_beq_eq_true hb
          subst this
          exact ⟨_, [], h2, key f us _ (by omega) fun j => by rw [Nat.zero_add]⟩
      · cases h
    · cases h
  · rename_i ht
    split at h
    · rename_i l0 hx
      obtain ⟨hv, h1, hh⟩ := boundK_some h
      obtain ⟨lv, h2, hl⟩ := boundK_some h1
      refine ⟨_, [], h2, fun κ a w M hA hR _ => ?_⟩
      have hp := hA x hmx _ hx
      generalize hea : a.eval x = ev at hp
      cases hp with
      | str _ _ =>
        have hsz : (⟨l0.toArray⟩ : ByteArray).size = l0.length := by simp [ByteArray.size]
        obtain ⟨v1, v2⟩ := vals κ a hA (cap := (⟨l0.toArray⟩ : ByteArray).size) (dflt := (⟨l0.toArray⟩ : ByteArray).size) (by rw [hsz]; exact hh) hl
        have e1 : (⟨l0.toArray⟩ : ByteArray).extract lv hv = ⟨((l0.take hv).drop lv).toArray⟩ := by
          apply ByteArray.ext
          rw [ByteArray.data_extract]
          apply Array.ext'
          simp [List.drop_take]
        refine ⟨_, .str _ .nil, ?_⟩
        simp only [execOp, ho]
        refine run_value ?_
        unfold Instr.sliceAt
        refine (run_q ht).trans ?_
        simp only [Option.map_none]
        unfold Instr.slice
        refine (run_q ht).trans ?_
        simp only [hea, Option.isSome_none, Bool.false_eq_true, if_false]
        refine (run_bind_ok (bounds_run (P := P) v1 v2)).trans ?_
        rw [← e1]; rfl
    · cases h
  · rename_i N e ht
    split at h
    · rename_i s hs
      split at h
      · rename_i n ps o' hx
        split at h
        · rename_i c own tip hf
          obtain ⟨c', hwk, h⟩ := walkK_some _ _ _ h
          split at h
          · rename_i w0 N' f us rest hd
            obtain ⟨hw, h⟩ := cond_some h
            simp only [Bool.and_eq_true] at hw
            have hw0 := Nat.eq_of_beq_eq_true hw.1
            have hN := Nat.eq_of_beq_eq_true hw.2
            obtain ⟨hv, h1, hh⟩ := boundK_some h
            obtain ⟨lv, h2, hl⟩ := boundK_some h1
            have hlle := lle hl
            have hvle : hv ≤ N := by rcases hh with ⟨_, e⟩ | ⟨op, kd, i, _, _, h0, h1, e⟩ <;> omega
            refine ⟨_, [n], h2, fun κ a w M hA hR hrd => ?_⟩
            have hp := hA x hmx _ hx
            generalize hea : a.eval x = ev at hp
            cases hp with
            | ptr _ p _ b _ h3 h4 _ =>
              have hM : M n = some (.cells c own tip) := by rw [hrd n (List.mem_singleton.2 rfl)]; exact hf
              obtain ⟨v1, v2⟩ := vals κ a hA (cap := N) hh hl
              refine ⟨.slice (some (if N = lv then ⟨b, p, none⟩ else (⟨b, p, none⟩ : Addr).add (lv * s))) (hv - lv) (N - lv), ?_, ?_⟩
              rotate_left
              · simp only [execOp, ho]
                refine run_value ?_
                unfold Instr.sliceAt
                refine (run_q ht).trans ?_
                simp only [hea]
                refine (run_bind_ok (e := Instr.sureAddr (.pointer (some ⟨b, p, none⟩))) (a := ⟨b, p, none⟩) (w' := w) rfl).trans ?_
                refine (run_bind_ok (bounds_run (P := P) v1 v2)).trans ?_
                exact (run_q hs).trans rfl
              · simp only [sub0_eq]
                have hpl := ((hR.place hM h3).walk ps hwk).drop hd
                obtain ⟨b', off, cs, e', fr, ha, hb', hle, _⟩ := hpl
                cases ha
                have hszb : κ.sz b = some cs.size := by
                  rcases hR.row n _ hM with ⟨g1, _⟩ | ⟨b2, zs, rst, e2, fr2, g1, g2, g3, g4, g5, g6, g7⟩
                  · rw [h3] at g1; cases g1
                  · rw [h3] at g1; cases g1
                    rw [hb'] at g2; cases g2
                    rw [g7]; simp
                simp only [cw, width] at hle
                have hmul : lv * w0 + (N - lv) * w0 = N * w0 := by rw [Nat.sub_mul]; have := Nat.mul_le_mul_right w0 (show lv ≤ N by omega); omega
                by_cases hm : N = lv
                · rw [if_pos hm]
                  exact .slc _ _ _ _ _ _ _ b _ _ h3 (.inl (by omega)) (Nat.le_refl _) (by omega) .nil
                · rw [if_neg hm, addr_add]
                  refine .slc _ _ _ _ _ _ _ b _ _ h3 (.inr ⟨by rw [h4, hw0], cs.size, hszb, ?_⟩) (Nat.le_refl _) (by omega) .nil
                  subst hN
                  omega
          · cases h
        · cases h
      · cases h
    · cases h
  · cases h
end
end Go.Sv
