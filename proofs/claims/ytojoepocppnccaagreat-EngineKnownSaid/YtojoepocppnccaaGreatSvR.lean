/- A second evaluator for the model's code: operations one by one, by hand. -/
import Derived.Test.YtojoepocppnccaaGreatSvQ
namespace Go.Sv
noncomputable section
open Go.RowKit
variable {P : Program}

def ListOk (P : Program) (ops : Array Oper) (sz : Nat) (l : List Oper) (E : Env) (st : AS) (E' : Env) (st' : AS) : Prop :=
  st.next ≤ st'.next ∧ ∀ (κ : Kap) (a : Act) (w : World) (Q : Exit → Act → World → Prop), SRel κ sz E a → Rel κ st w →
    (∀ κ' a' w', Kap.leN st.next κ κ' → SRel κ' sz E' a' → Rel κ' st' w' → Fr κ (find st.mem) w κ' (find st'.mem) w' → Q .normal a' w') → wpList P ops Q l a w
theorem ListOk.nil {ops : Array Oper} {sz : Nat} {E : Env} {st : AS} : ListOk P ops sz [] E st E st :=
  ⟨Nat.le_refl _, fun κ a w _ hA hR hQ => hQ κ a w (Kap.leN_refl _ κ) hA hR (Fr.refl _ _ _)⟩
theorem ListOk.cons {ops : Array Oper} {sz : Nat} {o : Oper} {l : List Oper} {E E' : Env} {st st1 st' : AS} {e : Ent} (hg : o.guard = none) (hd : dstOk sz o.dst = true) (hop : OpOk P o E st.next (find st.mem) e)
    (h1 : st1.next = st.next + e.nx) (h2 : find st1.mem = Mem.sets (find st.mem) e.eff) (hl : ListOk P ops sz l (E.put o.dst e.v) st1 E' st') : ListOk P ops sz (o :: l) E st E' st' := by
  have hn : st.next ≤ st1.next := by omega
  refine ⟨Nat.le_trans hn hl.1, fun κ a w Q hA hR hQ => ?_⟩
  have hw : Region.wanted o (yielded ops a.tmps) = true := by unfold Region.wanted; rw [hg]
  simp only [wpList, hw, if_true]
  refine .inl (hop κ a w (find st.mem) _ _ (hA.rel.on o) hR.mem (fun _ _ => rfl) (fun n hn _ => hR.fresh n hn) fun κ' v' w' a1 a2 a3 a4 a5 => ?_)
  refine hl.2 κ' _ w' Q ((hA.mono a1).put hd a3) ⟨fun n hn => ?_, by rw [h2]; exact a4⟩ fun κ2 aa2 w2 b1 b2 b3 b4 => hQ κ2 aa2 w2 (Kap.leN_trans hn ⟨fun n hn => a2 n (.inl hn), a1.st, a1.gh, a1.sz⟩ b1) b2 b3 ?_
  · rw [a2 n (.inr (by omega))]; exact hR.fresh n (by omega)
  · rw [h2] at b4; exact a5.trans b4
/-- Slots may be forgotten. -/
theorem SRel.less {κ : Kap} {sz : Nat} {E E' : Env} {a : Act} (r : SRel κ sz E a) (h : Less E' E) : SRel κ sz E' a :=
  ⟨⟨fun t => by
    rcases h t with e | e
    · rw [e]; exact r.rel.get t
    · rw [e]; exact vrel_any κ _, r.rel.defers⟩, r.size⟩
theorem CodeOk.less {nb sz : Nat} {c : Code} {E E' E'' : Env} {st st' : AS} {e : EK} (h : CodeOk P nb sz c E st e E' st') (hl : Less E'' E') : CodeOk P nb sz c E st e E'' st' := fun κ a w hA hR =>
  wp_mono (h κ a w hA hR) fun ex a' w' hq => by
    obtain ⟨h1, κ', h2, h3, h4⟩ := hq
    exact ⟨h1, κ', h2, h3.less hl, h4⟩
/-- Only these slots are kept. -/
def keepE (E : Env) : List Nat → Env → Env
  | [], E0 => E0
  | t :: ts, E0 => keepE E ts (E0.set t (E.get t))
theorem keepE_less {E : Env} : ∀ (ts : List Nat) {E0 : Env}, Less E0 E → Less (keepE E ts E0) E
  | [], _, h => h
  | t :: ts, E0, h => keepE_less ts fun t' => by
    by_cases e : t' = t
    · subst e
      rcases E0.get_set_same t' (E.get t') with h | h
      · exact .inl h
      · exact .inr h
    · rw [Env.get_set_ne e]; exact h t'
theorem mk_less (d : Nat) (E : Env) : Less (Env.mk d) E := fun t => .inr (Env.get_mk d t)
end
end Go.Sv
