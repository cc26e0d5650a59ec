/- A second evaluator for the model's code: code is sound. -/
import Derived.Test.YtojoepocppnccaaGreatSvH
namespace Go.Sv
noncomputable section
open Go.RowKit
variable {P : Program}

theorem fn_eq {g : FuncId} {fn : Func} {body : Code} (hg : P.funcs[g]? = some fn) (hb : fn.body = some body) : bodyOf P g = body ∧ szOf P g = fn.ntmps := by
  constructor
  · unfold bodyOf; rw [hg]; simp [hb]
  · unfold szOf; rw [hg]

theorem evCode_ok (hP : ProgOk P) {K : KT} (hK : KOk P K) {L : LT} (hL : LOk P L) {reg : (R : Type) → Reg R} (hreg : RegOk P reg) :
    ∀ (fuel : Nat) {R : Type} (g : FuncId) (c : Code) (E : Env) (st : AS) (k : EK → Env → AS → Option R) (r : R) (nb : Nat),
    codeOk (szOf P g) c = true → (∀ x ∈ blocks c, x ∈ blocks (bodyOf P g)) → (∀ x ∈ seqs c, x ∈ seqs (bodyOf P g)) → (∀ x ∈ regions c, x ∈ regions (bodyOf P g)) → nb ≤ st.next →
    evCode P K L reg fuel g c E st k = some r → ∃ e E' st', k e E' st' = some r ∧ st.next ≤ st'.next ∧ CodeOk P nb (szOf P g) c E st e E' st' ∧ ∀ body, c = .loop body → LoopOk P nb (szOf P g) body E st e E' st'
  | 0, R, g, c, E, st, k, r, nb, hco, hbl, hsq, hrg, hnb, h => by simp [evCode] at h
  | fuel + 1, R, g, c, E, st, k, r, nb, hco, hbl, hsq, hrg, hnb, h => by
    have ih := fun {R : Type} => evCode_ok hP hK hL hreg fuel (R := R)
    have inl : ∀ {R : Type} (h : FuncId) (vs : List AV) (st : AS) (k : AV → AS → Option R) (r : R) (fn : Func) (body : Code), P.funcs[h]? = some fn → fn.body = some body → vs.all (fun x => !isArr x) = true →
        evCode P K L reg fuel h body (enterEnv fn vs) st (finE P fn k) = some r → ∃ v st', k v st' = some r ∧ st.next ≤ st'.next ∧ SoundFn P h vs st v st' := by
      intro R h vs st k r fn body hg hb ha hh
      obtain ⟨e1, e2⟩ := fn_eq hg hb
      have := ih h body (enterEnv fn vs) st (finE P fn k) r st.next (by rw [e2]; exact hP.codes h fn body hg hb) (by rw [e1]; exact fun x hx => hx) (by rw [e1]; exact fun x hx => hx) (by rw [e1]; exact fun x hx => hx) (Nat.le_refl _) hh
      obtain ⟨e, E', st', hf, hn, hc, _⟩ := this
      rw [e2] at hc
      obtain ⟨v, hv, hs⟩ := fn_ok hg hb ha hc hf
      exact ⟨v, st', hv, hn, hs⟩
    have hreg0 : ∀ {E E' : Env} {st : AS} {e : EK} {c : Code}, e = .normal → (∀ (κ : Kap) (a : Act) (w : World), SRel κ (szOf P g) E a → c.wp P (fun ex a' w' => ex = .normal ∧ a' = a ∧ w' = w) a w) → E' = E → CodeOk P nb (szOf P g) c E st e E' st := by
      intro E E' st e c he hc hE κ a w hA hR
      subst he
      subst hE
      refine wp_mono (hc κ a w hA) fun ex a' w' hq => ?_
      obtain ⟨rfl, rfl, rfl⟩ := hq
      exact ⟨rfl, κ, Kap.leN_refl _ _, hA, hR, Fr.refl _ _ _⟩
    cases c with
    | skip =>
      simp only [evCode] at h
      exact ⟨_, _, _, h, Nat.le_refl _, fun κ a w hA hR => wp_skip ⟨rfl, κ, Kap.leN_refl _ _, hA, hR, Fr.refl _ _ _⟩, fun _ e => by cases e⟩
    | label l =>
      simp only [evCode] at h
      exact ⟨_, _, _, h, Nat.le_refl _, fun κ a w hA hR => wp_label ⟨rfl, κ, Kap.leN_refl _ _, hA, hR, Fr.refl _ _ _⟩, fun _ e => by cases e⟩
    | exit id =>
      simp only [evCode] at h
      exact ⟨_, _, _, h, Nat.le_refl _, fun κ a w hA hR => wp_exit ⟨rfl, κ, Kap.leN_refl _ _, hA, hR, Fr.refl _ _ _⟩, fun _ e => by cases e⟩
    | ret =>
      simp only [evCode] at h
      exact ⟨_, _, _, h, Nat.le_refl _, fun κ a w hA hR => wp_ret ⟨rfl, κ, Kap.leN_refl _ _, hA, hR, Fr.refl _ _ _⟩, fun _ e => by cases e⟩
    | goto l => simp [evCode] at h
    | refuse why => simp [evCode] at h
    | rangeFunc f params asg body => simp [evCode] at h
    | seq x y =>
      simp only [evCode] at h
      simp only [codeOk, Bool.and_eq_true] at hco
      split at h
      · rename_i F hF
        cases y with
        | block id body =>
          have hmem : (id, x, body) ∈ seqs (bodyOf P g) := hsq _ (by simp [seqs])
          obtain ⟨e, E', st', h1, h2, h3⟩ := hL.seq R g id E st F hF x body hmem nb hnb k r h
          exact ⟨e, E', st', h1, h2, h3, fun _ e => by cases e⟩
        | _ => cases hF
      · have hsx : ∀ z ∈ seqs x, z ∈ seqs (bodyOf P g) := fun z hz => hsq z (by simp [seqs, hz])
        have hsy : ∀ z ∈ seqs y, z ∈ seqs (bodyOf P g) := fun z hz => hsq z (by simp [seqs, hz])
        simp only [blocks, regions, List.mem_append] at hbl hrg
        obtain ⟨e1, A1, st1, h1, hn1, hx, _⟩ := ih g x E st _ r nb hco.1 (fun x hx => hbl x (.inl hx)) hsx (fun x hx => hrg x (.inl hx)) hnb h
        cases e1 with
        | normal =>
          obtain ⟨e2, A2, st2, h2, hn2, hy, _⟩ := ih g y A1 st1 k r nb hco.2 (fun x hx => hbl x (.inr hx)) hsy (fun x hx => hrg x (.inr hx)) (by omega) h1
          refine ⟨e2, A2, st2, h2, by omega, fun κ a w hA hR => wp_seq ?_, fun _ e => by cases e⟩
          refine wp_mono (hx κ a w hA hR) fun ex a' w' hq => ?_
          obtain ⟨rfl, κ', hle, hA', hR', hb⟩ := hq
          exact wp_mono (hy κ' a' w' hA' hR') fun ex a2 w2 hq2 => hq2.mono hle hb
        | exit i =>
          refine ⟨_, A1, st1, h1, hn1, fun κ a w hA hR => wp_seq ?_, fun _ e => by cases e⟩
          refine wp_mono (hx κ a w hA hR) fun ex a' w' hq => ?_
          have := hq.1
          subst this
          exact hq
        | ret =>
          refine ⟨_, A1, st1, h1, hn1, fun κ a w hA hR => wp_seq ?_, fun _ e => by cases e⟩
          refine wp_mono (hx κ a w hA hR) fun ex a' w' hq => ?_
          have := hq.1
          subst this
          exact hq
    | cond c x y =>
      simp only [evCode] at h
      simp only [codeOk, Bool.and_eq_true] at hco
      simp only [blocks, seqs, regions, List.mem_append] at hbl hsq hrg
      split at h
      · rename_i t
        split at h
        · rename_i b hb
          have hcond : ∀ κ (a : Act), SRel κ (szOf P g) E a → a.eval (.tmp t) = .bool b := fun κ a hA => by
            have := hA.rel.get t
            rw [hb] at this
            exact bool_of this
          cases b with
          | true =>
            simp only [cond_true, Env.setK_eq] at h
            obtain ⟨e1, A1, st1, h1, hn1, hx, _⟩ := ih g x _ st k r nb hco.1 (fun x hx => hbl x (.inl hx)) (fun x hx => hsq x (.inl hx)) (fun x hx => hrg x (.inl hx)) hnb h
            exact ⟨e1, A1, st1, h1, hn1, fun κ a w hA hR => wp_cond_true (hcond κ a hA) (hx κ a w (hA.again hb) hR), fun _ e => by cases e⟩
          | false =>
            simp only [cond_false, Env.setK_eq] at h
            obtain ⟨e1, A1, st1, h1, hn1, hx, _⟩ := ih g y _ st k r nb hco.2 (fun x hx => hbl x (.inr hx)) (fun x hx => hsq x (.inr hx)) (fun x hx => hrg x (.inr hx)) hnb h
            exact ⟨e1, A1, st1, h1, hn1, fun κ a w hA hR => wp_cond_false (hcond κ a hA) (hx κ a w (hA.again hb) hR), fun _ e => by cases e⟩
        · cases h
      · rename_i b
        cases b with
        | true =>
          simp only [cond_true] at h
          obtain ⟨e1, A1, st1, h1, hn1, hx, _⟩ := ih g x E st k r nb hco.1 (fun x hx => hbl x (.inl hx)) (fun x hx => hsq x (.inl hx)) (fun x hx => hrg x (.inl hx)) hnb h
          exact ⟨e1, A1, st1, h1, hn1, fun κ a w hA hR => wp_cond_true rfl (hx κ a w hA hR), fun _ e => by cases e⟩
        | false =>
          simp only [cond_false] at h
          obtain ⟨e1, A1, st1, h1, hn1, hx, _⟩ := ih g y E st k r nb hco.2 (fun x hx => hbl x (.inr hx)) (fun x hx => hsq x (.inr hx)) (fun x hx => hrg x (.inr hx)) hnb h
          exact ⟨e1, A1, st1, h1, hn1, fun κ a w hA hR => wp_cond_false rfl (hx κ a w hA hR), fun _ e => by cases e⟩
      · cases h
    | block id body =>
      simp only [evCode] at h
      simp only [codeOk] at hco
      simp only [regions, seqs] at hrg hsq
      have hmem : (id, body) ∈ blocks (bodyOf P g) := hbl _ (by simp [blocks])
      have hbl' : ∀ x ∈ blocks body, x ∈ blocks (bodyOf P g) := fun x hx => hbl x (by simp [blocks, hx])
      split at h
      · rename_i F hF
        obtain ⟨e, E', st', h1, h2, h3⟩ := hL.block R g id E st F hF body hmem nb hnb k r h
        exact ⟨e, E', st', h1, h2, h3, fun _ e => by cases e⟩
      · obtain ⟨e1, A1, st1, h1, hn1, hx, _⟩ := ih g body E st _ r nb hco hbl' hsq hrg hnb h
        cases e1 with
        | normal =>
          refine ⟨_, A1, st1, h1, hn1, fun κ a w hA hR => wp_block ?_, fun _ e => by cases e⟩
          refine wp_mono (hx κ a w hA hR) fun ex a' w' hq => ?_
          have := hq.1
          subst this
          exact hq
        | ret =>
          refine ⟨_, A1, st1, h1, hn1, fun κ a w hA hR => wp_block ?_, fun _ e => by cases e⟩
          refine wp_mono (hx κ a w hA hR) fun ex a' w' hq => ?_
          have := hq.1
          subst this
          exact hq
        | exit i =>
          simp only at h1
          cases hi : Nat.beq i id with
          | true =>
            have hi' := Nat.eq_of_beq_eq_true hi
            simp only [hi, cond_true] at h1
            refine ⟨_, A1, st1, h1, hn1, fun κ a w hA hR => wp_block ?_, fun _ e => by cases e⟩
            refine wp_mono (hx κ a w hA hR) fun ex a' w' hq => ?_
            obtain ⟨rfl, hq⟩ := hq
            subst hi'
            show Exit.inBlock i _ (.exit i) a' w'
            simp only [Exit.inBlock, if_true]
            exact ⟨rfl, hq⟩
          | false =>
            have hi' : i ≠ id := fun e => by subst e; simp at hi
            simp only [hi, cond_false] at h1
            refine ⟨_, A1, st1, h1, hn1, fun κ a w hA hR => wp_block ?_, fun _ e => by cases e⟩
            refine wp_mono (hx κ a w hA hR) fun ex a' w' hq => ?_
            obtain ⟨rfl, hq⟩ := hq
            show Exit.inBlock id _ (.exit i) a' w'
            simp only [Exit.inBlock, if_neg hi']
            exact ⟨rfl, hq⟩
    | loop body =>
      simp only [evCode] at h
      have hco' := hco
      have hbl' := hbl
      have hsq' := hsq
      have hrg' := hrg
      simp only [codeOk] at hco
      simp only [blocks, seqs, regions] at hbl hsq hrg
      obtain ⟨e1, A1, st1, h1, hn1, hx, _⟩ := ih g body E st _ r nb hco hbl hsq hrg hnb h
      have key : ∃ e A' st', k e A' st' = some r ∧ st.next ≤ st'.next ∧ LoopOk P nb (szOf P g) body E st e A' st' := by
        cases e1 with
        | normal =>
          obtain ⟨e2, A2, st2, h2, hn2, _, hl⟩ := ih g (.loop body) A1 st1 k r nb hco' hbl' hsq' hrg' (by omega) h1
          obtain ⟨n, hn⟩ := hl body rfl
          refine ⟨e2, A2, st2, h2, by omega, n + 1, fun κ a w hA hR => ?_⟩
          rw [rounds_succ]
          refine wp_mono (hx κ a w hA hR) fun ex a' w' hq => ?_
          obtain ⟨rfl, κ', hle, hA', hR', hb⟩ := hq
          exact rounds_mono (fun ex a2 w2 hq2 => hq2.mono hle hb) n a' w' (hn κ' a' w' hA' hR')
        | exit i =>
          refine ⟨_, A1, st1, h1, hn1, 1, fun κ a w hA hR => ?_⟩
          rw [rounds_succ]
          refine wp_mono (hx κ a w hA hR) fun ex a' w' hq => ?_
          have := hq.1
          subst this
          exact hq
        | ret =>
          refine ⟨_, A1, st1, h1, hn1, 1, fun κ a w hA hR => ?_⟩
          rw [rounds_succ]
          refine wp_mono (hx κ a w hA hR) fun ex a' w' hq => ?_
          have := hq.1
          subst this
          exact hq
      obtain ⟨e, A', st', hk, hn, hl⟩ := key
      refine ⟨e, A', st', hk, hn, fun κ a w hA hR => ?_, fun b hb => by cases hb; exact hl⟩
      obtain ⟨n, hn⟩ := hl
      exact wp_loop_rounds n (hn κ a w hA hR)
    | scope body =>
      simp only [evCode] at h
      simp only [codeOk] at hco
      simp only [blocks, seqs, regions] at hbl hsq hrg
      obtain ⟨e1, A1, st1, h1, hn1, hx, _⟩ := ih g body E st k r nb hco hbl hsq hrg hnb h
      refine ⟨e1, A1, st1, h1, hn1, fun κ a w hA hR => wp_scope_straight ?_, fun _ e => by cases e⟩
      refine wp_mono (hx κ a w hA hR) fun ex a' w' hq => ?_
      obtain ⟨rfl, hq⟩ := hq
      cases e1 <;> exact ⟨rfl, hq⟩
    | region id ops draw =>
      simp only [evCode] at h
      cases draw with
      | true =>
        simp only [cond_true] at h
        have hmem : (id, ops) ∈ regions (bodyOf P g) := hrg _ (by simp [regions])
        obtain ⟨E', st', hk, hn, hc⟩ := hreg R _ (by
          intro h vs st k r ha hh
          dsimp only at hh
          split at hh
          · rename_i F hkk
            exact hK _ _ _ _ _ hkk _ _ hh
          · split at hh
            · cases hh
            · rename_i fn hg
              split at hh
              · cases hh
              · rename_i body hb
                obtain ⟨acc, rest, hh, hacc, _⟩ := partT_some hh
                obtain ⟨hck, hh⟩ := cond_some hh
                simp only [Bool.and_eq_true] at hck
                rw [argsK_eq] at hh
                obtain ⟨v, st', hv, hn, hs⟩ := inl h vs _ _ r fn body hg hb ha hh
                obtain ⟨kept, m, hv, hk, hf⟩ := gcK_some hv
                unfold entOf at hv
                obtain ⟨_, hv⟩ := cond_some hv
                exact ⟨_, hv, (hs.sub (m := m) fun n x e => by
                  rw [hf] at e
                  cases hkn : find kept n with
                  | some y => rw [hkn] at e; cases e; exact hk n _ hkn
                  | none => rw [hkn] at e; simp [find] at e).frame hck.1 hck.2 hn _ hacc⟩) g id ops hmem E st _ r h
        refine ⟨.normal, E', st', hk, hn, fun κ a w hA hR => ?_, fun _ e => by cases e⟩
        refine wp_mono (hc κ a w hA hR) fun ex a' w' hq => ?_
        obtain ⟨e1, κ', h1, h2⟩ := hq
        exact ⟨e1, κ', h1.mono hnb, h2⟩
      | false =>
        simp only [cond_false] at h
        simp only [codeOk] at hco
        obtain ⟨E', st', hk, hn, hc⟩ := opsE_ok hP.zeros hP.flat hP.names (by
          intro h vs st k r ha hh
          dsimp only at hh
          split at hh
          · rename_i F hkk
            obtain ⟨e, he, hs⟩ := hK _ _ _ _ _ hkk _ _ hh
            obtain ⟨st', h1, h2, h3⟩ := applyK_some he
            exact ⟨_, st', h1, by omega, hs.sound h2 h3⟩
          · split at hh
            · cases hh
            · rename_i fn hg
              split at hh
              · cases hh
              · rename_i body hb
                cases hleaf : leafB body with
                | true =>
                  rw [hleaf, cond_true, argsK_eq] at hh
                  exact inl h vs _ _ r fn body hg hb ha hh
                | false =>
                  rw [hleaf, cond_false] at hh
                  split at hh
                  · obtain ⟨hck, hh⟩ := cond_some hh
                    rw [argsK_eq] at hh
                    obtain ⟨v, st', hv, hn, hs⟩ := inl h vs _ _ r fn body hg hb ha hh
                    obtain ⟨kept, m, hv, hk, hf⟩ := gcK_some hv
                    exact ⟨v, _, hv, hn, hs.part hck rfl hn (fun n r e => by simp [find] at e) (fun n => rfl) hk hf⟩
                  · cases hlong : longer 24 st.mem with
                    | true =>
                      rw [hlong, cond_true] at hh
                      obtain ⟨acc, rest, hh, hacc, hrest⟩ := partT_some hh
                      obtain ⟨hck, hh⟩ := cond_some hh
                      simp only [Bool.and_eq_true] at hck
                      rw [argsK_eq] at hh
                      obtain ⟨v, st', hv, hn, hs⟩ := inl h vs _ _ r fn body hg hb ha hh
                      obtain ⟨kept, m, hv, hk, hf⟩ := gcK_some hv
                      exact ⟨v, _, hv, hn, hs.part hck.1 hck.2 hn hacc hrest hk hf⟩
                    | false =>
                      rw [hlong, cond_false, argsK_eq] at hh
                      exact inl h vs _ _ r fn body hg hb ha hh) _ _ _ _ r hco h
        refine ⟨.normal, E', st', hk, hn, fun κ a w hA hR => wp_region_list (hc κ a w _ hA hR fun κ' a' w' hle hA' hR' hb => ?_), fun _ e => by cases e⟩
        exact ⟨rfl, κ', hle.mono hnb, hA', hR', hb⟩

theorem evFn_ok (hP : ProgOk P) {K : KT} (hK : KOk P K) {L : LT} (hL : LOk P L) {reg : (R : Type) → Reg R} (hreg : RegOk P reg) {R : Type} {fuel : Nat} {g : FuncId} {vs : List AV} {st : AS} {k : AV → AS → Option R} {r : R} (ha : vs.all (fun x => !isArr x) = true)
    (h : evFn P K L reg fuel g vs st k = some r) : ∃ v st', k v st' = some r ∧ st.next ≤ st'.next ∧ SoundFn P g vs st v st' := by
  unfold evFn at h
  split at h
  · cases h
  · rename_i fn hg
    split at h
    · cases h
    · rename_i body hb
      rw [argsK_eq] at h
      obtain ⟨e1, e2⟩ := fn_eq hg hb
      obtain ⟨e, E', st', hf, hn, hc, _⟩ := evCode_ok hP hK hL hreg fuel g body _ st _ r st.next (by rw [e2]; exact hP.codes g fn body hg hb) (by rw [e1]; exact fun x hx => hx) (by rw [e1]; exact fun x hx => hx) (by rw [e1]; exact fun x hx => hx) (Nat.le_refl _) h
      rw [e2] at hc
      obtain ⟨v, hv, hs⟩ := fn_ok hg hb ha hc hf
      exact ⟨v, st', hv, hn, hs⟩
end
end Go.Sv
