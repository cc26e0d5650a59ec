/- A second evaluator for the model's code: what is said less of the same; loops, round by round. -/
import Derived.Test.YtojoepocppnccaaGreatSvT
import Derived.Test.YtojoepocppnccaaGreatSvR
namespace Go.Sv
noncomputable section
open Go.RowKit
variable {P : Program}

/-! ### less is said -/
def Weak (nb sz : Nat) (E : Env) (st : AS) (E2 : Env) (st2 : AS) : Prop :=
  ∀ (κ : Kap) (a : Act) (w : World), SRel κ sz E a → Rel κ st w → ∃ κ2, Kap.leN nb κ κ2 ∧ SRel κ2 sz E2 a ∧ Rel κ2 st2 w ∧ Fr κ (find st.mem) w κ2 (find st2.mem) w
theorem Weak.refl {nb sz : Nat} {E : Env} {st : AS} : Weak nb sz E st E st := fun κ _ _ hA hR => ⟨κ, Kap.leN_refl _ _, hA, hR, Fr.refl _ _ _⟩
theorem Weak.trans {nb sz : Nat} {E E1 E2 : Env} {st st1 st2 : AS} (h : Weak nb sz E st E1 st1) (k : Weak nb sz E1 st1 E2 st2) : Weak nb sz E st E2 st2 := fun κ a w hA hR => by
  obtain ⟨κ1, a1, a2, a3, a4⟩ := h κ a w hA hR
  obtain ⟨κ2, b1, b2, b3, b4⟩ := k κ1 a w a2 a3
  exact ⟨κ2, Kap.leN_trans (Nat.le_refl _) a1 b1, b2, b3, a4.trans b4⟩
theorem CodeOk.weak {nb sz : Nat} {c : Code} {E E' E2 : Env} {st st' st2 : AS} {e : EK} (h : CodeOk P nb sz c E st e E' st') (hw : Weak nb sz E' st' E2 st2) : CodeOk P nb sz c E st e E2 st2 := fun κ a w hA hR =>
  wp_mono (h κ a w hA hR) fun ex a' w' hq => by
    obtain ⟨h1, κ', h2, h3, h4, h5⟩ := hq
    obtain ⟨κ2, g1, g2, g3, g4⟩ := hw κ' a' w' h3 h4
    exact ⟨h1, κ2, Kap.leN_trans (Nat.le_refl _) h2 g1, g2, g3, h5.trans g4⟩
theorem Weak.code {nb sz : Nat} {c : Code} {E E' E1 : Env} {st st' st1 : AS} {e : EK} (hw : Weak nb sz E st E1 st1) (h : CodeOk P nb sz c E1 st1 e E' st') : CodeOk P nb sz c E st e E' st' := fun κ a w hA hR => by
  obtain ⟨κ1, g1, g2, g3, g4⟩ := hw κ a w hA hR
  exact wp_mono (h κ1 a w g2 g3) fun ex a' w' hq => hq.mono g1 g4

/-- Names from a bound on are told anew. -/
def Kap.pull (κ : Kap) (ρ : Nat → Nat) (next : Nat) : Kap := ⟨fun x => if x < next then κ.loc (ρ x) else none, κ.st, κ.gh, κ.sz⟩
def RowLe (ρ : Nat → Nat) (next n : Nat) (r1 r2 : Row) : Prop := ∀ (κ : Kap) (w : World), RowRel κ w (ρ n) r1 → RowRel (κ.pull ρ next) w n r2
def slots : List (Nat × AV) → Env → Env
  | [], E => E
  | p :: l, E => slots l (E.set p.1 p.2)
theorem slots_get : ∀ (l : List (Nat × AV)) (E : Env) (t : Nat), (slots l E).get t = E.get t ∨ (slots l E).get t = .any ∨ ∃ v, (t, v) ∈ l ∧ (slots l E).get t = v
  | [], E, t => .inl rfl
  | p :: l, E, t => by
    rcases slots_get l (E.set p.1 p.2) t with h | h | ⟨v, h1, h2⟩
    · simp only [slots]
      by_cases e : t = p.1
      · subst e
        rcases E.get_set_same p.1 p.2 with g | g
        · exact .inr (.inr ⟨p.2, List.mem_cons_self .., h.trans g⟩)
        · exact .inr (.inl (h.trans g))
      · rw [Env.get_set_ne e] at h; exact .inl h
    · exact .inr (.inl h)
    · exact .inr (.inr ⟨v, List.mem_cons_of_mem _ h1, h2⟩)

theorem pull_rel {st st2 : AS} {κ : Kap} {w : World} (ρ : Nat → Nat) (hR : Rel κ st w)
    (hM : ∀ n r2, find st2.mem n = some r2 → ∃ r1, find st.mem (ρ n) = some r1 ∧ RowLe ρ st2.next n r1 r2 ∧ (r2.own = true → r1.own = true))
    (hi : ∀ n n' r r', find st2.mem n = some r → find st2.mem n' = some r' → ρ n = ρ n' → n = n') : Rel (κ.pull ρ st2.next) st2 w ∧ Fr κ (find st.mem) w (κ.pull ρ st2.next) (find st2.mem) w := by
  have hloc : ∀ n b, (κ.pull ρ st2.next).loc n = some (some b) → κ.loc (ρ n) = some (some b) := fun n b h => by
    simp only [Kap.pull] at h
    split at h
    · exact h
    · cases h
  refine ⟨⟨fun n hge => ?_, hR.mem.szlt, hR.mem.stable, fun n r2 h2 => ?_, fun n n' r r' b h1 h2 h3 h4 ho => ?_⟩, ⟨fun _ _ h => .inl h, rfl, rfl, rfl, Nat.le_refl _, fun _ _ _ => rfl, fun b hb ho => ?_⟩⟩
  · simp only [Kap.pull, if_neg (Nat.not_lt.2 hge)]
  · obtain ⟨r1, h1, h3, _⟩ := hM n r2 h2
    exact h3 κ w (hR.mem.row _ _ h1)
  · obtain ⟨r1, g1, _, g2⟩ := hM n r h1
    obtain ⟨r1', g1', _, _⟩ := hM n' r' h2
    exact hi n n' r r' h1 h2 (hR.mem.inj _ _ _ _ b g1 g1' (hloc n b h3) (hloc n' b h4) (g2 ho))
  · obtain ⟨n, r2, h1, h2, h3⟩ := ho
    obtain ⟨r1, g1, _, g2⟩ := hM n r2 h1
    exact ⟨ρ n, r1, g1, g2 h2, hloc n b h3⟩
theorem weak_pull {nb sz : Nat} {E : Env} {st st2 : AS} {l : List (Nat × AV)} {d : Nat} (ρ : Nat → Nat) (hρ : ∀ x, x < nb → ρ x = x) (hn : nb ≤ st2.next)
    (hE : ∀ p ∈ l, ∀ κ y, VRel κ (E.get p.1) y → VRel (κ.pull ρ st2.next) p.2 y)
    (hM : ∀ n r2, find st2.mem n = some r2 → ∃ r1, find st.mem (ρ n) = some r1 ∧ RowLe ρ st2.next n r1 r2 ∧ (r2.own = true → r1.own = true))
    (hi : ∀ n n' r r', find st2.mem n = some r → find st2.mem n' = some r' → ρ n = ρ n' → n = n') : Weak nb sz E st (slots l (Env.mk d)) st2 := fun κ a w hA hR => by
  obtain ⟨h1, h2⟩ := pull_rel ρ hR hM hi
  refine ⟨κ.pull ρ st2.next, ⟨fun n hlt => ?_, fun _ _ h => h, rfl, fun _ _ h => h⟩, ⟨⟨fun t => ?_, hA.rel.defers⟩, hA.size⟩, h1, h2⟩
  · simp only [Kap.pull, if_pos (Nat.lt_of_lt_of_le hlt hn), hρ n hlt]
  · rcases slots_get l (Env.mk d) t with h | h | ⟨v, h1, h2⟩
    · rw [h, Env.get_mk]; exact vrel_any _ _
    · rw [h]; exact vrel_any _ _
    · rw [h2]; exact hE _ h1 κ _ (hA.rel.get t)

/-! ### values -/
/-- Values that bear no row's name. -/
def noNm : AV → Bool
  | .any | .bool _ | .int _ _ | .str _ | .raw _ | .sptr _ _ | .lst _ _ _ _ | .arr _ _ _ _ | .gh _ => true
  | _ => false
theorem CRel.noNm {κ κ' : Kap} (h : κ.nl.le κ'.nl) : ∀ {c : List AV} {zs : List Value}, c.all Sv.noNm = true → CRel κ c zs → CRel κ' c zs := by
  intro c zs hc r
  induction r generalizing κ' with
  | nil => exact .nil
  | any y _ ih => simp only [List.all_cons, Bool.and_eq_true] at hc; exact .any y (ih h hc.2)
  | bool b _ ih => simp only [List.all_cons, Bool.and_eq_true] at hc; exact .bool b (ih h hc.2)
  | int k n _ ih => simp only [List.all_cons, Bool.and_eq_true] at hc; exact .int k n (ih h hc.2)
  | str s _ ih => simp only [List.all_cons, Bool.and_eq_true] at hc; exact .str s (ih h hc.2)
  | raw v _ ih => simp only [List.all_cons, Bool.and_eq_true] at hc; exact .raw v (ih h hc.2)
  | sptr c cs zs b off p o h1 h2 h3 h4 _ _ ih2 => simp only [List.all_cons, Bool.and_eq_true] at hc; exact .sptr c cs zs b off p o (h.st _ _ h1) h2 (h3.mono h) h4 (ih2 h hc.2)
  | lst w len b off cap f us' cs h1 h2 h3 ho h4 h5 _ _ ih2 => simp only [List.all_cons, Bool.and_eq_true] at hc; exact .lst w len b off cap f us' cs (h.st _ _ h1) h2 h3 ho h4 (fun i hi => (h5 i hi).mono h) (ih2 h hc.2)
  | lst0 w cap f us' a _ ih => simp only [List.all_cons, Bool.and_eq_true] at hc; exact .lst0 w cap f us' a (ih h hc.2)
  | arr w n f us' zs h1 ho h2 h3 h4 _ _ ih2 => simp only [List.all_cons, Bool.and_eq_true] at hc; exact .arr w n f us' zs h1 ho h2 (fun i hi => (h3 i hi).mono h) h4 (ih2 h hc.2)
  | gh g y h1 _ ih => simp only [List.all_cons, Bool.and_eq_true] at hc; exact .gh g y (by rw [h1]; exact (congrFun h.gh g).symm) (ih h hc.2)
  | _ => simp [Sv.noNm] at hc
theorem Kap.pull_nl (κ : Kap) (ρ : Nat → Nat) (next : Nat) : κ.nl.le (κ.pull ρ next).nl := ⟨fun _ _ h => h, fun _ _ h => h, rfl, fun _ _ h => h⟩
theorem VRel.pull {κ : Kap} {ρ : Nat → Nat} {next : Nat} {x : AV} {y : Value} (hx : noNm x = true) (h : VRel κ x y) : VRel (κ.pull ρ next) x y := CRel.noNm (κ.pull_nl ρ next) (by simp [hx]) h
theorem Kap.pull_loc {κ : Kap} {ρ : Nat → Nat} {next n : Nat} (h : n < next) : (κ.pull ρ next).loc n = κ.loc (ρ n) := by simp only [Kap.pull, if_pos h]
theorem VRel.pull_slc {κ : Kap} {ρ : Nat → Nat} {next n1 n : Nat} (hr : ρ n = n1) (hn : n < next) {ps : List (Nat × Nat × Nat)} {o i w len cap : Nat} {y : Value} (h : VRel κ (.slc n1 ps o i w len cap) y) : VRel (κ.pull ρ next) (.slc n ps o i w len cap) y := by
  subst hr
  cases h with
  | slc _ _ _ _ _ _ _ b cap' a h1 h2 h3 h4 _ => exact .slc _ _ _ _ _ _ _ b cap' a (by rw [Kap.pull_loc hn]; exact h1) h2 h3 h4 .nil
  | slc0 _ _ _ _ _ h1 _ => exact .slc0 _ _ _ _ _ (by rw [Kap.pull_loc hn]; exact h1) .nil
theorem VRel.pull_mp {κ : Kap} {ρ : Nat → Nat} {next n1 n : Nat} (hr : ρ n = n1) (hn : n < next) {y : Value} (h : VRel κ (.mp n1) y) : VRel (κ.pull ρ next) (.mp n) y := by
  subst hr
  cases h with
  | mp _ b h1 _ => exact .mp _ b (by rw [Kap.pull_loc hn]; exact h1) .nil
theorem VRel.pull_ptr {κ : Kap} {ρ : Nat → Nat} {next n1 n : Nat} (hr : ρ n = n1) (hn : n < next) {ps : List (Nat × Nat × Nat)} {o : Nat} {y : Value} (h : VRel κ (.ptr n1 ps o) y) : VRel (κ.pull ρ next) (.ptr n ps o) y := by
  subst hr
  cases h with
  | ptr _ p _ b _ h1 h2 _ => exact .ptr _ p _ b _ (by rw [Kap.pull_loc hn]; exact h1) h2 .nil

/-! ### rows -/
theorem RowLe.arr {ρ : Nat → Nat} {next n w N : Nat} {f f' : Nat → List AV} {us us' : List (Nat × List AV)} {own tip tip' : Bool} (hn : n < next) (ht : tip' = false → tip = false) (he : ∀ i, i < N → elt us' f' i = elt us f i) :
    RowLe ρ next n (.cells [.arr w N f us] own tip) (.cells [.arr w N f' us'] own tip') := fun κ W h => by
  have hc : ∀ zs, CRel κ [.arr w N f us] zs → CRel (κ.pull ρ next) [.arr w N f' us'] zs := fun zs h => arr_ext (CRel.noNm (κ.pull_nl ρ next) rfl h) he
  rcases h with ⟨h1, h2⟩ | ⟨b, zs, rest, e, fr, h1, h2, h3, h4, h5⟩
  · exact .inl ⟨by rw [Kap.pull_loc hn]; exact h1, hc _ h2⟩
  · exact .inr ⟨b, zs, rest, e, fr, by rw [Kap.pull_loc hn]; exact h1, h2, hc _ h3, fun h => h4 (ht h), h5⟩
theorem RowLe.plain {ρ : Nat → Nat} {next n : Nat} {c : List AV} {own tip : Bool} (hn : n < next) (hc : c.all noNm = true) : RowLe ρ next n (.cells c own tip) (.cells c own tip) := fun κ W h => by
  rcases h with ⟨h1, h2⟩ | ⟨b, zs, rest, e, fr, h1, h2, h3, h4, h5⟩
  · exact .inl ⟨by rw [Kap.pull_loc hn]; exact h1, CRel.noNm (κ.pull_nl ρ next) hc h2⟩
  · exact .inr ⟨b, zs, rest, e, fr, by rw [Kap.pull_loc hn]; exact h1, h2, CRel.noNm (κ.pull_nl ρ next) hc h3, h4, h5⟩
theorem RowLe.map {ρ : Nat → Nat} {next n : Nat} {kk : Option IntKind} {l : List (Key × Nat × AV)} {clock : Nat} (hn : n < next) : RowLe ρ next n (.map kk l clock) (.map kk l clock) := fun κ W h => by
  obtain ⟨b, es, h1, h2, h3⟩ := h
  exact ⟨b, es, by rw [Kap.pull_loc hn]; exact h1, h2, Ents.mono (κ := κ) (κ' := κ.pull ρ next) (κ.pull_nl ρ next) h3.ent, h3.stamped⟩
theorem RowLe.ptab {ρ : Nat → Nat} {next n : Nat} {xs : List (Int × Int)} (hn : n < next) : RowLe ρ next n (.ptab xs) (.ptab xs) := fun κ W h => by
  obtain ⟨l, clock, b, es, h0, h1, h2, h3⟩ := h
  exact ⟨l, clock, b, es, h0, by rw [Kap.pull_loc hn]; exact h1, h2, Ents.mono (κ := κ) (κ' := κ.pull ρ next) (κ.pull_nl ρ next) h3.ent, h3.stamped⟩
/-- A map's pairs alone. -/
theorem RowLe.toPtab {ρ : Nat → Nat} {next n : Nat} {l : List (Key × Nat × AV)} {clock : Nat} {xs : List (Int × Int)} (hn : n < next) (h0 : PT xs l) : RowLe ρ next n (.map (some .i64) l clock) (.ptab xs) := fun κ W h => by
  obtain ⟨b, es, h1, h2, h3⟩ := h
  exact ⟨l, clock, b, es, h0, by rw [Kap.pull_loc hn]; exact h1, h2, Ents.mono (κ := κ) (κ' := κ.pull ρ next) (κ.pull_nl ρ next) h3.ent, h3.stamped⟩

/-! ### loops -/
theorem LoopOk.last {nb sz : Nat} {b : Code} {E E' : Env} {st st' : AS} {e : EK} (h : CodeOk P nb sz b E st e E' st') (he : e ≠ .normal) : LoopOk P nb sz b E st e E' st' := ⟨1, fun κ a w hA hR => by
  rw [rounds_succ]
  refine wp_mono (h κ a w hA hR) fun ex a' w' hq => ?_
  have := hq.1
  subst this
  cases e with
  | normal => exact absurd rfl he
  | exit i => exact hq
  | ret => exact hq⟩
theorem LoopOk.round {nb sz : Nat} {b : Code} {E E1 E' : Env} {st st1 st' : AS} {e : EK} (h : CodeOk P nb sz b E st .normal E1 st1) (hl : LoopOk P nb sz b E1 st1 e E' st') : LoopOk P nb sz b E st e E' st' := by
  obtain ⟨n, hn⟩ := hl
  refine ⟨n + 1, fun κ a w hA hR => ?_⟩
  rw [rounds_succ]
  refine wp_mono (h κ a w hA hR) fun ex a' w' hq => ?_
  obtain ⟨rfl, κ', hle, hA', hR', hb⟩ := hq
  exact rounds_mono (fun ex a2 w2 hq2 => hq2.mono hle hb) n a' w' (hn κ' a' w' hA' hR')
theorem LoopOk.weak {nb sz : Nat} {b : Code} {E E' E1 : Env} {st st' st1 : AS} {e : EK} (hw : Weak nb sz E st E1 st1) (h : LoopOk P nb sz b E1 st1 e E' st') : LoopOk P nb sz b E st e E' st' := by
  obtain ⟨n, hn⟩ := h
  refine ⟨n, fun κ a w hA hR => ?_⟩
  obtain ⟨κ1, g1, g2, g3, g4⟩ := hw κ a w hA hR
  exact rounds_mono (fun ex a2 w2 hq2 => hq2.mono g1 g4) n a w (hn κ1 a w g2 g3)
theorem LoopOk.code {nb sz : Nat} {b : Code} {E E' : Env} {st st' : AS} {e : EK} (h : LoopOk P nb sz b E st e E' st') : CodeOk P nb sz (.loop b) E st e E' st' := fun κ a w hA hR => by
  obtain ⟨n, hn⟩ := h
  exact wp_loop_rounds n (hn κ a w hA hR)
def EK.outOf (id : Nat) : EK → EK
  | .exit i => bif Nat.beq i id then .normal else .exit i
  | e => e
theorem CodeOk.block {nb sz id : Nat} {b : Code} {E E' : Env} {st st' : AS} {e : EK} (h : CodeOk P nb sz b E st e E' st') : CodeOk P nb sz (.block id b) E st (e.outOf id) E' st' := fun κ a w hA hR => wp_block (by
  refine wp_mono (h κ a w hA hR) fun ex a' w' hq => ?_
  obtain ⟨rfl, hq⟩ := hq
  cases e with
  | normal => exact ⟨rfl, hq⟩
  | ret => exact ⟨rfl, hq⟩
  | exit i =>
    show Exit.inBlock id _ (.exit i) a' w'
    cases hi : Nat.beq i id with
    | true =>
      have hi' := Nat.eq_of_beq_eq_true hi
      subst hi'
      simp only [Exit.inBlock, if_true]
      exact ⟨by simp [EK.outOf, EK.toExit], hq⟩
    | false =>
      have hi' : i ≠ id := fun e => by subst e; simp at hi
      simp only [Exit.inBlock, if_neg hi']
      exact ⟨by simp [EK.outOf, hi, EK.toExit], hq⟩)
theorem CodeOk.seq2 {nb sz : Nat} {x y : Code} {E E1 E' : Env} {st st1 st' : AS} {e : EK} (h : CodeOk P nb sz x E st .normal E1 st1) (k : CodeOk P nb sz y E1 st1 e E' st') : CodeOk P nb sz (.seq x y) E st e E' st' := fun κ a w hA hR => wp_seq (by
  refine wp_mono (h κ a w hA hR) fun ex a' w' hq => ?_
  obtain ⟨rfl, κ', hle, hA', hR', hb⟩ := hq
  exact wp_mono (k κ' a' w' hA' hR') fun ex a2 w2 hq2 => hq2.mono hle hb)

/-! ### parts of a function's code -/
structure SubOk (P : Program) (g : FuncId) (c : Code) : Prop where
  ok : codeOk (szOf P g) c = true
  bl : ∀ x ∈ blocks c, x ∈ blocks (bodyOf P g)
  sq : ∀ x ∈ seqs c, x ∈ seqs (bodyOf P g)
  rg : ∀ x ∈ regions c, x ∈ regions (bodyOf P g)
theorem SubOk.loop {g : FuncId} {b : Code} (h : SubOk P g (.loop b)) : SubOk P g b := ⟨by have := h.ok; simpa [codeOk] using this, fun x hx => h.bl x (by simpa [blocks] using hx), fun x hx => h.sq x (by simpa [seqs] using hx), fun x hx => h.rg x (by simpa [regions] using hx)⟩
theorem blocks_sub {sz id : Nat} {b : Code} : ∀ {c : Code}, (id, b) ∈ blocks c → (∀ x ∈ blocks b, x ∈ blocks c) ∧ (∀ x ∈ seqs b, x ∈ seqs c) ∧ (∀ x ∈ regions b, x ∈ regions c) ∧ (codeOk sz c = true → codeOk sz b = true) := by
  intro c
  induction c with
  | seq x y ih1 ih2 =>
    intro h
    simp only [blocks, List.mem_append] at h
    rcases h with h | h
    · obtain ⟨a1, a2, a3, a4⟩ := ih1 h
      exact ⟨fun z hz => by simp only [blocks, List.mem_append]; exact .inl (a1 z hz), fun z hz => by simp only [seqs, List.mem_append]; exact .inr (.inl (a2 z hz)), fun z hz => by simp only [regions, List.mem_append]; exact .inl (a3 z hz), fun hc => a4 (by simp only [codeOk, Bool.and_eq_true] at hc; exact hc.1)⟩
    · obtain ⟨a1, a2, a3, a4⟩ := ih2 h
      exact ⟨fun z hz => by simp only [blocks, List.mem_append]; exact .inr (a1 z hz), fun z hz => by simp only [seqs, List.mem_append]; exact .inr (.inr (a2 z hz)), fun z hz => by simp only [regions, List.mem_append]; exact .inr (a3 z hz), fun hc => a4 (by simp only [codeOk, Bool.and_eq_true] at hc; exact hc.2)⟩
  | cond q x y ih1 ih2 =>
    intro h
    simp only [blocks, List.mem_append] at h
    rcases h with h | h
    · obtain ⟨a1, a2, a3, a4⟩ := ih1 h
      exact ⟨fun z hz => by simp only [blocks, List.mem_append]; exact .inl (a1 z hz), fun z hz => by simp only [seqs, List.mem_append]; exact .inl (a2 z hz), fun z hz => by simp only [regions, List.mem_append]; exact .inl (a3 z hz), fun hc => a4 (by simp only [codeOk, Bool.and_eq_true] at hc; exact hc.1)⟩
    · obtain ⟨a1, a2, a3, a4⟩ := ih2 h
      exact ⟨fun z hz => by simp only [blocks, List.mem_append]; exact .inr (a1 z hz), fun z hz => by simp only [seqs, List.mem_append]; exact .inr (a2 z hz), fun z hz => by simp only [regions, List.mem_append]; exact .inr (a3 z hz), fun hc => a4 (by simp only [codeOk, Bool.and_eq_true] at hc; exact hc.2)⟩
  | block id' x ih =>
    intro h
    simp only [blocks, List.mem_cons] at h
    rcases h with h | h
    · simp only [Prod.mk.injEq] at h
      obtain ⟨rfl, rfl⟩ := h
      exact ⟨fun z hz => by simp only [blocks, List.mem_cons]; exact .inr hz, fun z hz => by simpa only [seqs] using hz, fun z hz => by simpa only [regions] using hz, fun hc => by simpa only [codeOk] using hc⟩
    · obtain ⟨a1, a2, a3, a4⟩ := ih h
      exact ⟨fun z hz => by simp only [blocks, List.mem_cons]; exact .inr (a1 z hz), fun z hz => by simp only [seqs]; exact a2 z hz, fun z hz => by simp only [regions]; exact a3 z hz, fun hc => a4 (by simpa only [codeOk] using hc)⟩
  | loop x ih =>
    intro h
    simp only [blocks] at h
    obtain ⟨a1, a2, a3, a4⟩ := ih h
    exact ⟨fun z hz => by simp only [blocks]; exact a1 z hz, fun z hz => by simp only [seqs]; exact a2 z hz, fun z hz => by simp only [regions]; exact a3 z hz, fun hc => a4 (by simpa only [codeOk] using hc)⟩
  | scope x ih =>
    intro h
    simp only [blocks] at h
    obtain ⟨a1, a2, a3, a4⟩ := ih h
    exact ⟨fun z hz => by simp only [blocks]; exact a1 z hz, fun z hz => by simp only [seqs]; exact a2 z hz, fun z hz => by simp only [regions]; exact a3 z hz, fun hc => a4 (by simpa only [codeOk] using hc)⟩
  | _ => intro h; cases h
theorem subOk_block (hP : ProgOk P) {g id : Nat} {b : Code} (h : (id, b) ∈ blocks (bodyOf P g)) : SubOk P g b := by
  obtain ⟨a1, a2, a3, a4⟩ := blocks_sub (sz := szOf P g) h
  refine ⟨a4 ?_, a1, a2, a3⟩
  cases hg : P.funcs[g]? with
  | none => simp [bodyOf, hg, blocks] at h
  | some fn =>
    cases hb : fn.body with
    | none => simp [bodyOf, hg, hb, blocks] at h
    | some body =>
      obtain ⟨e1, e2⟩ := fn_eq hg hb
      rw [e1, e2]; exact hP.codes g fn body hg hb

def blkOf (P : Program) (g id : Nat) : Code :=
  match (blocks (bodyOf P g)).filter (fun p => Nat.beq p.1 id) with
  | [p] => p.2
  | _ => .skip
def loopOf (P : Program) (g id : Nat) : Code :=
  match blkOf P g id with
  | .loop b => b
  | _ => .skip
/-- A function has one block of that number, and that is a loop. -/
def oneLoop (P : Program) (g id : Nat) : Bool :=
  match (blocks (bodyOf P g)).filter (fun p => Nat.beq p.1 id) with
  | [p] => match p.2 with
    | .loop _ => true
    | _ => false
  | _ => false
theorem oneLoop_eq {g id : Nat} (h : oneLoop P g id = true) {body : Code} (hb : (id, body) ∈ blocks (bodyOf P g)) : body = .loop (loopOf P g id) := by
  unfold oneLoop at h
  have hm : (id, body) ∈ (blocks (bodyOf P g)).filter (fun p => Nat.beq p.1 id) := List.mem_filter.2 ⟨hb, by simp⟩
  split at h
  · rename_i p hp
    rw [hp] at hm
    have := List.mem_singleton.1 hm
    subst this
    split at h
    · rename_i b hb2
      dsimp only at hb2
      subst hb2
      simp only [loopOf, blkOf, hp]
    · cases h
  · cases h

section
variable {K : KT} {L : LT}
/-- A piece of code, out of its evaluation; of the slots, these are kept. -/
theorem code_ev (hP : ProgOk P) (hr : RegsOk P) (hK : KOk P K) (hL : LOk P L) {fuel : Nat} {g : FuncId} {c : Code} {E : Env} {st : AS} {nb : Nat} {ts : List Nat} {d : Nat} {e : EK} {E1 : Env} {st1 : AS}
    (hs : SubOk P g c) (hnb : nb ≤ st.next) (h : evCode P K L (regB P) fuel g c E st (fun e E' st' => some (e, keepE E' ts (Env.mk d), st')) = some (e, E1, st1)) : CodeOk P nb (szOf P g) c E st e E1 st1 ∧ st.next ≤ st1.next := by
  obtain ⟨e', E', st', hk, hn, hc, _⟩ := evCode_ok hP hK hL (regB_ok hP hr) fuel g c E st _ _ nb hs.ok hs.bl hs.sq hs.rg hnb h
  simp only [Option.some.injEq, Prod.mk.injEq] at hk
  obtain ⟨rfl, rfl, rfl⟩ := hk
  exact ⟨hc.less (keepE_less ts (mk_less d E')), hn⟩
end
end
end Go.Sv
