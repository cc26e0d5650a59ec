/- A second evaluator for the model's code: comparing with nil. -/
import Derived.Test.YtojoepocppnccaaGreatSvN
namespace Go.Sv
noncomputable section
open Go.RowKit
variable {P : Program}

section
variable {R : Type} (P)
/-- What a comparison of something that is not nil with nil comes to. -/
def cmpRes (op : BinOp) (rd : List Nat) (k : Ent → Option R) : Option R :=
  match op with
  | .eql => k ⟨.bool false, [], 0, rd⟩
  | .neq => k ⟨.bool true, [], 0, rd⟩
  | _ => none
/-- Which nil it is. -/
def nilOf (d : Option TypeDesc) (y : AV) : Nat :=
  match d, y with
  | some (.pointer _), .raw (.pointer none) => 1
  | some (.slice _), .raw (.slice none 0 0) => 2
  | some (.map _ _), .raw (.map none) => 3
  | some (.func _ _ _), .raw .nilFunc => 4
  | some (.interface _), .raw .nilIface => 5
  | _, _ => 0
def nilCmpE (op : BinOp) (n : Nat) (x : AV) (m : List (Nat × Row)) (k : Ent → Option R) (other : Option R) : Option R :=
  match n with
  | 0 => other
  | 1 => match x with
    | .ptr _ _ _ => cmpRes op [] k
    | .sptr _ _ => cmpRes op [] k
    | _ => other
  | 2 => match x with
    | .slc r _ _ _ _ len _ => bif Nat.blt 0 len then cmpRes op [] k else match find m r with
      | some (.cells c _ _) => bif Nat.blt 0 (cw c) then cmpRes op [r] k else none
      | _ => none
    | _ => other
  | 3 => match x with
    | .mp _ => cmpRes op [] k
    | _ => other
  | 4 => match x with
    | .fn _ _ _ => cmpRes op [] k
    | _ => other
  | _ => match x with
    | .ifc _ _ => cmpRes op [] k
    | _ => other
def cmpE (o : Oper) (op : BinOp) (t : TypeId) (x y : Operand) (E : Env) (m : List (Nat × Row)) (k : Ent → Option R) : Option R :=
  match aeval E y with
  | some (.raw v) => match aeval E x with
    | some u => nilCmpE op (nilOf (P.underlying t) (.raw v)) u m k (binE P o op t x y E k)
    | none => none
  | _ => binE P o op t x y E k
end
theorem eql_run {op : BinOp} {t : TypeId} {u v : Value} {w : World} {b : Bool} (hop : (op = .eql ∧ b = false) ∨ (op = .neq ∧ b = true)) (hu : (∀ a c, u ≠ .int a c) ∧ (∀ a c, u ≠ .float a c) ∧ (∀ a c d, u ≠ .complex a c d) ∧ (∀ s, u ≠ .string s)) (h : (Op.equal t u v).run P w = .ok false w) :
    (binOp op t u v).run P w = .ok (.bool b) w := by
  obtain ⟨h1, h2, h3, h4⟩ := hu
  rcases hop with ⟨rfl, rfl⟩ | ⟨rfl, rfl⟩
  · cases u <;> first | exact absurd rfl (h1 _ _) | exact absurd rfl (h2 _ _) | exact absurd rfl (h3 _ _ _) | exact absurd rfl (h4 _) | exact (run_bind_ok h).trans rfl
  · cases u <;> first | exact absurd rfl (h1 _ _) | exact absurd rfl (h2 _ _) | exact absurd rfl (h3 _ _ _) | exact absurd rfl (h4 _) | exact (run_bind_ok h).trans rfl
theorem nil_run {o : Oper} {op : BinOp} {t : TypeId} {x y : Operand} {z : TypeId} (ho : o.op = .binOp op t x y z) {a' : Act} {w : World} {u v : Value} (e1 : a'.eval x = u) (e2 : a'.eval y = v) {b : Bool} (hop : (op = .eql ∧ b = false) ∨ (op = .neq ∧ b = true))
    (hu : (∀ a c, u ≠ .int a c) ∧ (∀ a c, u ≠ .float a c) ∧ (∀ a c d, u ≠ .complex a c d) ∧ (∀ s, u ≠ .string s)) (hg : (eqGuard op t x y u v).run P w = .ok () w) (h : (Op.equal t u v).run P w = .ok false w) : (execOp a'.eval o).run P w = .ok (.value (.bool b)) w := by
  simp only [execOp, ho, e1, e2]
  refine run_value ?_
  exact (run_bind_ok hg).trans (eql_run hop hu h)
theorem cmpRes_some {R : Type} {op : BinOp} {rd : List Nat} {k : Ent → Option R} {r : R} (h : cmpRes op rd k = some r) : ∃ b, ((op = .eql ∧ b = false) ∨ (op = .neq ∧ b = true)) ∧ k ⟨.bool b, [], 0, rd⟩ = some r := by
  unfold cmpRes at h
  split at h
  · exact ⟨_, .inl ⟨rfl, rfl⟩, h⟩
  · exact ⟨_, .inr ⟨rfl, rfl⟩, h⟩
  · cases h
theorem cmpE_ok (hT : FlatOk P) {R : Type} {o : Oper} {op : BinOp} {t : TypeId} {x y : Operand} {z : TypeId} (ho : o.op = .binOp op t x y z) {E : Env} {m : List (Nat × Row)} {k : Ent → Option R} {r : R} (h : cmpE P o op t x y E m k = some r) :
    ∃ v rd, k ⟨v, [], 0, rd⟩ = some r ∧ StillOk P o E (find m) v rd := by
  have hmx : x ∈ o.op.operands := by rw [ho]; simp [Op.operands]
  have hmy : y ∈ o.op.operands := by rw [ho]; simp [Op.operands]
  have bin : binE P o op t x y E k = some r → ∃ v rd, k ⟨v, [], 0, rd⟩ = some r ∧ StillOk P o E (find m) v rd := fun h => by
    obtain ⟨v, h1, h2⟩ := binE_ok hT ho h
    exact ⟨v, [], h1, h2 _⟩
  unfold cmpE at h
  split at h
  · rename_i v hy
    split at h
    · rename_i u hx
      -- the value of y
      have hyv : ∀ (κ : Kap) (a : Act), AOn κ o E a → a.eval y = v := fun κ a hA => by
        have := hA y hmy _ hy
        generalize a.eval y = q at this
        cases this; rfl
      have fin : ∀ {d : TypeDesc} {b : Bool}, P.underlying t = some d → ((op = .eql ∧ b = false) ∨ (op = .neq ∧ b = true)) →
          ∀ (a : Act) (w : World) (u' : Value), a.eval x = u' → a.eval y = v → (∀ a c, u' ≠ .int a c) ∧ (∀ a c, u' ≠ .float a c) ∧ (∀ a c d, u' ≠ .complex a c d) ∧ (∀ s, u' ≠ .string s) →
          (eqGuard op t x y u' v).run P w = .ok () w → (qrun P (underlying t) = some d → (Op.equal t u' v).run P w = .ok false w) → (execOp a.eval o).run P w = .ok (.value (.bool b)) w := by
        intro d b hd hop a w u' e1 e2 hne hg heq
        exact nil_run ho e1 e2 hop hne hg (heq (by simp [underlying, program, bind, Sem.bind, qrun, hd, pure]))
      unfold nilCmpE at h
      split at h
      · exact bin h
      · rename_i hn
        have hn' := hn
        unfold nilOf at hn'
        split at hn' <;> first | cases hn' | skip
        rename_i e hd hv
        cases hv
        split at h
        · obtain ⟨b, hop, h1⟩ := cmpRes_some h
          refine ⟨_, _, h1, fun κ a w M hA hR _ => ⟨_, .bool _ .nil, ?_⟩⟩
          have hv := hA x hmx _ hx
          generalize ea : a.eval x = u' at hv
          cases hv with
          | ptr _ _ _ b ps _ _ _ =>
            refine fin hd hop a w _ ea (hyv κ a hA) ⟨by intros; simp, by intros; simp, by intros; simp, by intros; simp⟩ (by unfold eqGuard; split <;> rfl) fun hq => ?_
            exact (run_q hq).trans rfl
        · obtain ⟨b, hop, h1⟩ := cmpRes_some h
          refine ⟨_, _, h1, fun κ a w M hA hR _ => ⟨_, .bool _ .nil, ?_⟩⟩
          have hv := hA x hmx _ hx
          generalize ea : a.eval x = u' at hv
          cases hv with
          | sptr _ _ _ b _ _ _ _ _ _ _ _ =>
            refine fin hd hop a w _ ea (hyv κ a hA) ⟨by intros; simp, by intros; simp, by intros; simp, by intros; simp⟩ (by unfold eqGuard; split <;> rfl) fun hq => ?_
            exact (run_q hq).trans rfl
        · exact bin h
      · rename_i hn
        have hn' := hn
        unfold nilOf at hn'
        split at hn' <;> first | cases hn' | skip
        rename_i e hd hv
        cases hv
        split at h
        · rename_i rn ps o' i W len cap
          have gen : ∀ (rd : List Nat) (b : Bool), ((op = .eql ∧ b = false) ∨ (op = .neq ∧ b = true)) → (∀ (κ : Kap) (w : World) (M : Mem), MRel κ M w → (∀ n ∈ rd, M n = find m n) → len = 0 → κ.loc rn ≠ some none) → StillOk P o E (find m) (.bool b) rd := by
            intro rd b hop hloc κ a w M hA hR hM
            refine ⟨_, .bool _ .nil, ?_⟩
            have hv := hA x hmx _ hx
            generalize ea : a.eval x = u' at hv
            cases hv with
            | slc _ _ _ _ _ _ _ b' cap' ad _ _ _ _ _ =>
              refine fin hd hop a w _ ea (hyv κ a hA) ⟨by intros; simp, by intros; simp, by intros; simp, by intros; simp⟩ (by unfold eqGuard; split <;> rfl) fun hq => ?_
              exact (run_q hq).trans rfl
            | slc0 _ _ _ _ _ h3 _ => exact absurd h3 (hloc κ w M hR hM rfl)
          cases hb : Nat.blt 0 len with
          | true =>
            rw [hb, cond_true] at h
            obtain ⟨b, hop, h1⟩ := cmpRes_some h
            have hl : 0 < len := by simpa [Nat.blt_eq] using hb
            exact ⟨_, _, h1, gen [] b hop fun κ w M _ _ h0 => by omega⟩
          | false =>
            rw [hb, cond_false] at h
            split at h
            · rename_i c own tip hf
              obtain ⟨hc, h⟩ := cond_some h
              obtain ⟨b, hop, h1⟩ := cmpRes_some h
              have hc : 0 < cw c := by simpa [Nat.blt_eq] using hc
              refine ⟨_, _, h1, gen [rn] b hop fun κ w M hR hM _ hl => ?_⟩
              have hrow : M rn = some (.cells c own tip) := by rw [hM rn (List.mem_singleton.2 rfl)]; exact hf
              rcases hR.row rn _ hrow with ⟨_, g⟩ | ⟨b', zs, rest, e', fr, g1, _⟩
              · have := g.length
                simp at this; omega
              · rw [hl] at g1; cases g1
            · cases h
        · exact bin h
      · rename_i hn
        have hn' := hn
        unfold nilOf at hn'
        split at hn' <;> first | cases hn' | skip
        rename_i e1 e2 hd hv
        cases hv
        split at h
        · obtain ⟨b, hop, h1⟩ := cmpRes_some h
          refine ⟨_, _, h1, fun κ a w M hA hR _ => ⟨_, .bool _ .nil, ?_⟩⟩
          have hv := hA x hmx _ hx
          generalize ea : a.eval x = u' at hv
          cases hv with
          | mp _ b _ _ =>
            refine fin hd hop a w _ ea (hyv κ a hA) ⟨by intros; simp, by intros; simp, by intros; simp, by intros; simp⟩ (by unfold eqGuard; split <;> rfl) fun hq => ?_
            exact (run_q hq).trans rfl
        · exact bin h
      · rename_i hn
        have hn' := hn
        unfold nilOf at hn'
        split at hn' <;> first | cases hn' | skip
        rename_i e1 e2 e3 hd hv
        cases hv
        split at h
        · obtain ⟨b, hop, h1⟩ := cmpRes_some h
          refine ⟨_, _, h1, fun κ a w M hA hR _ => ⟨_, .bool _ .nil, ?_⟩⟩
          have hv := hA x hmx _ hx
          generalize ea : a.eval x = u' at hv
          cases hv with
          | fn _ _ _ _ _ _ _ _ =>
            refine fin hd hop a w _ ea (hyv κ a hA) ⟨by intros; simp, by intros; simp, by intros; simp, by intros; simp⟩ (by unfold eqGuard; split <;> rfl) fun hq => ?_
            exact (run_q hq).trans rfl
        · exact bin h
      · rename_i h0 h1' h2' h3' h4' hn
        split at h
        · obtain ⟨b, hop, h1⟩ := cmpRes_some h
          have hn' : ∃ e, P.underlying t = some (.interface e) ∧ v = .nilIface := by
            revert h1' h2' h3' h4' hn
            unfold nilOf
            split
            · intros; rename_i a b c d e; first | exact (a rfl).elim | exact (b rfl).elim | exact (c rfl).elim | exact (d rfl).elim | exact (e rfl).elim
            · intros; rename_i a b c d e; first | exact (a rfl).elim | exact (b rfl).elim | exact (c rfl).elim | exact (d rfl).elim | exact (e rfl).elim
            · intros; rename_i a b c d e; first | exact (a rfl).elim | exact (b rfl).elim | exact (c rfl).elim | exact (d rfl).elim | exact (e rfl).elim
            · intros; rename_i a b c d e; first | exact (a rfl).elim | exact (b rfl).elim | exact (c rfl).elim | exact (d rfl).elim | exact (e rfl).elim
            · rename_i e hd hv
              cases hv
              intros; exact ⟨_, hd, rfl⟩
            · intros; rename_i a b c d e; first | exact (a rfl).elim | exact (b rfl).elim | exact (c rfl).elim | exact (d rfl).elim | exact (e rfl).elim
          obtain ⟨e, hd, rfl⟩ := hn'
          refine ⟨_, _, h1, fun κ a w M hA hR _ => ⟨_, .bool _ .nil, ?_⟩⟩
          have hv := hA x hmx _ hx
          generalize ea : a.eval x = u' at hv
          cases hv with
          | ifc _ _ _ _ _ =>
            refine fin hd hop a w _ ea (hyv κ a hA) ⟨by intros; simp, by intros; simp, by intros; simp, by intros; simp⟩ (by unfold eqGuard; split <;> rfl) fun hq => ?_
            exact (run_q hq).trans rfl
        · exact bin h
    · cases h
  · exact bin h
end
end Go.Sv
