/- A second evaluator for the model's code: calls on a part of the memory. -/
import Derived.Test.YtojoepocppnccaaGreatSvG
namespace Go.Sv
noncomputable section
open Go.RowKit
variable {P : Program}

theorem sets_rev : ∀ (m : List (Nat × Row)) (l : List (Nat × Option Row)) (M : Mem), M.sets (revRows m l) = Mem.sets (fun n => match find m n with | some r => some r | none => M n) l
  | [], l, M => rfl
  | (i, r) :: m, l, M => by
    simp only [revRows]
    rw [sets_rev m _ M]
    show (Mem.set _ i (some r)).sets l = _
    congr 1
    funext n
    simp only [find]
    by_cases e : n = i
    · subst e; rw [Mem.set_same]; simp
    · rw [Mem.set_ne _ _ e, beq_false (Ne.symm e), cond_false]
/-- Names below a bound alone. -/
def Kap.upto (κ : Kap) (n : Nat) : Kap := ⟨fun m => if m < n then κ.loc m else none, κ.st, κ.gh, κ.sz⟩
theorem Kap.upto_lt (κ : Kap) {n m : Nat} (h : m < n) : (κ.upto n).loc m = κ.loc m := if_pos h
theorem Kap.upto_ge (κ : Kap) {n m : Nat} (h : n ≤ m) : (κ.upto n).loc m = none := if_neg (by omega)
theorem bnd_ok {n : Nat} {κ : Kap} {xs : List AV} {ys : List Value} (r : CRel κ xs ys) : ∀ d, bnds (bndN d n) xs = true → CRel (κ.upto n) xs ys := by
  have hd : ∀ {d : Nat} {x : AV} {xs : List AV}, bnds (bndN d n) (x :: xs) = true → ∃ e, d = e + 1 ∧ bndN (e + 1) n x = true ∧ bnds (bndN d n) xs = true := by
    intro d x xs h
    simp only [bnds, Bool.and_eq_true] at h
    cases d with
    | zero => simp [bndN] at h
    | succ e => exact ⟨e, rfl, h.1, h.2⟩
  induction r with
  | nil => intro d h; exact .nil
  | any y _ ih => intro d h; obtain ⟨e, rfl, _, h2⟩ := hd h; exact .any y (ih _ h2)
  | bool b _ ih => intro d h; obtain ⟨e, rfl, _, h2⟩ := hd h; exact .bool b (ih _ h2)
  | int k m _ ih => intro d h; obtain ⟨e, rfl, _, h2⟩ := hd h; exact .int k m (ih _ h2)
  | str s _ ih => intro d h; obtain ⟨e, rfl, _, h2⟩ := hd h; exact .str s (ih _ h2)
  | raw v _ ih => intro d h; obtain ⟨e, rfl, _, h2⟩ := hd h; exact .raw v (ih _ h2)
  | ptr m p o b ps h1 h3 _ ih =>
    intro d h; obtain ⟨e, rfl, hx, h2⟩ := hd h
    simp only [bndN, Nat.blt_eq] at hx
    exact .ptr m p o b ps (by rw [Kap.upto_lt _ hx]; exact h1) h3 (ih _ h2)
  | sptr c cs zs b off p o h1 h3 h4 h5 _ _ ih2 => intro d h; obtain ⟨e, rfl, _, h2⟩ := hd h; exact .sptr c cs zs b off p o h1 h3 h4 h5 (ih2 _ h2)
  | slc m ps o i w len cap b cap' a h1 h3 h4 h5 _ ih =>
    intro d h; obtain ⟨e, rfl, hx, h2⟩ := hd h
    simp only [bndN, Nat.blt_eq] at hx
    exact .slc m ps o i w len cap b cap' a (by rw [Kap.upto_lt _ hx]; exact h1) h3 h4 h5 (ih _ h2)
  | slc0 m o i w ps h1 _ ih =>
    intro d h; obtain ⟨e, rfl, hx, h2⟩ := hd h
    simp only [bndN, Nat.blt_eq] at hx
    exact .slc0 m o i w ps (by rw [Kap.upto_lt _ hx]; exact h1) (ih _ h2)
  | lst w len b off cap f us' cs h1 h3 h4 ho h5 h6 _ _ ih2 => intro d h; obtain ⟨e, rfl, _, h2⟩ := hd h; exact .lst w len b off cap f us' cs h1 h3 h4 ho h5 h6 (ih2 _ h2)
  | lst0 w cap f us' a _ ih => intro d h; obtain ⟨e, rfl, _, h2⟩ := hd h; exact .lst0 w cap f us' a (ih _ h2)
  | agg c zs _ _ ih1 ih2 =>
    intro d h; obtain ⟨e, rfl, hx, h2⟩ := hd h
    exact .agg c zs (ih1 e hx) (ih2 _ h2)
  | tup c zs _ _ ih1 ih2 =>
    intro d h; obtain ⟨e, rfl, hx, h2⟩ := hd h
    exact .tup c zs (ih1 e hx) (ih2 _ h2)
  | ifc t x y _ _ ih1 ih2 =>
    intro d h; obtain ⟨e, rfl, hx, h2⟩ := hd h
    simp only [bndN] at hx
    exact .ifc t x y (ih1 e (by simp only [bnds, hx, Bool.true_and])) (ih2 _ h2)
  | fn f a b as bs _ _ _ ih1 ih2 ih3 =>
    intro d h; obtain ⟨e, rfl, hx, h2⟩ := hd h
    simp only [bndN, Bool.and_eq_true] at hx
    exact .fn f a b as bs (ih1 e hx.1) (ih2 e hx.2) (ih3 _ h2)
  | mp m b h1 _ ih =>
    intro d h; obtain ⟨e, rfl, hx, h2⟩ := hd h
    simp only [bndN, Nat.blt_eq] at hx
    exact .mp m b (by rw [Kap.upto_lt _ hx]; exact h1) (ih _ h2)
  | arr w m f us' zs h1 ho h3 h4 h5 _ _ ih2 => intro d h; obtain ⟨e, rfl, _, h2⟩ := hd h; exact .arr w m f us' zs h1 ho h3 h4 h5 (ih2 _ h2)
  | gh g y h1 _ ih => intro d h; obtain ⟨e, rfl, _, h2⟩ := hd h; exact .gh g y h1 (ih _ h2)

theorem dels_sets : ∀ (a : List (Nat × Row)) (l : List (Nat × Option Row)) (M : Mem), M.sets (delRows a l) = Mem.sets (fun n => match find a n with | some _ => none | none => M n) l
  | [], l, M => rfl
  | (i, r) :: a, l, M => by
    show (Mem.set M i none).sets (delRows a l) = _
    rw [dels_sets a]
    congr 1
    funext n
    simp only [find]
    by_cases e : n = i
    · subst e; rw [Mem.set_same]; simp
      cases find a n <;> rfl
    · rw [Mem.set_ne _ _ e, beq_false (Ne.symm e), cond_false]
theorem find_mem : ∀ (a : List (Nat × Row)) (n : Nat) (r : Row), find a n = some r → (n, r) ∈ a
  | [], n, r, h => by simp [find] at h
  | (i, x) :: a, n, r, h => by
    simp only [find] at h
    cases hb : Nat.beq i n with
    | true =>
      rw [hb, cond_true] at h
      have := Nat.eq_of_beq_eq_true hb
      simp only [Option.some.injEq] at h
      subst this; subst h; exact List.mem_cons_self ..
    | false => rw [hb, cond_false] at h; exact List.mem_cons_of_mem _ (find_mem a n r h)
theorem accOk_spec {next : Nat} : ∀ {a : List (Nat × Row)}, accOk next a = true → ∀ n r, (n, r) ∈ a → n < next ∧ rowBnd next r = true
  | [], _, n, r, h => by cases h
  | (i, x) :: a, h, n, r, hm => by
    simp only [accOk, Bool.and_eq_true, Nat.blt_eq] at h
    rcases List.mem_cons.1 hm with e | e
    · simp only [Prod.mk.injEq] at e
      obtain ⟨rfl, rfl⟩ := e
      exact h.1
    · exact accOk_spec h.2 n r e
theorem RowRel.upto {κ : Kap} {w : World} {n next : Nat} {r : Row} (h : RowRel κ w n r) (hn : n < next) (hb : rowBnd next r = true) : RowRel (κ.upto next) w n r := by
  cases r with
  | cells c own tip =>
    simp only [rowBnd] at hb
    rcases h with ⟨h1, h2⟩ | ⟨b, zs, rest, e, fr, h1, h2, h3, h4⟩
    · exact .inl ⟨by rw [Kap.upto_lt _ hn]; exact h1, bnd_ok h2 _ hb⟩
    · exact .inr ⟨b, zs, rest, e, fr, by rw [Kap.upto_lt _ hn]; exact h1, h2, bnd_ok h3 _ hb, h4⟩
  | map kk l clock =>
    obtain ⟨b, es, h1, h2, h3⟩ := h
    exact ⟨b, es, by rw [Kap.upto_lt _ hn]; exact h1, h2, Ents.mono (κ := κ) (κ' := κ.upto next) ⟨fun _ _ h => h, fun _ _ h => h, rfl, fun _ _ h => h⟩ h3.ent, h3.stamped⟩
  | ptab xs =>
    obtain ⟨l, clock, b, es, h0, h1, h2, h3⟩ := h
    exact ⟨l, clock, b, es, h0, by rw [Kap.upto_lt _ hn]; exact h1, h2, Ents.mono (κ := κ) (κ' := κ.upto next) ⟨fun _ _ h => h, fun _ _ h => h, rfl, fun _ _ h => h⟩ h3.ent, h3.stamped⟩

/-- A call on a part of the memory. -/
theorem SoundFn.frame {g : FuncId} {vs : List AV} {next : Nat} {acc : List (Nat × Row)} {v : AV} {st' : AS} (h : SoundFn P g vs ⟨next, acc⟩ v st') (hb : bnds (bndN 6 next) vs = true) (ha : accOk next acc = true) (hn : next ≤ st'.next) (m : Mem)
    (hm : ∀ n r, find acc n = some r → m n = some r) : CallEnt P g vs next m ⟨v, delRows acc (revRows st'.mem []), st'.next - next, rowNames acc⟩ := by
  intro κ us w M hl hR hrd hfr
  have hfr : ∀ n, next ≤ n → n < st'.next → κ.loc n = none := fun n h1 h2 => hfr n h1 (by dsimp only; omega)
  have hsub : ∀ n r, find acc n = some r → M n = some r := fun n r hr => by
    rw [hrd n (rowNames_mem (find_mem _ _ _ hr))]; exact hm n r hr
  have hacc : ∀ n r, find acc n = some r → n < next ∧ rowBnd next r = true := fun n r hr => accOk_spec ha n r (find_mem _ _ _ hr)
  have hR0 : Rel (κ.upto next) ⟨next, acc⟩ w := ⟨fun n hn => Kap.upto_ge _ hn, hR.szlt, hR.stable, fun n r hr => (hR.row n r (hsub n r hr)).upto (hacc n r hr).1 (hacc n r hr).2, fun n n' r r' b h1 h2 h3 h4 ho => by
    rw [Kap.upto_lt _ (hacc n r h1).1] at h3
    rw [Kap.upto_lt _ (hacc n' r' h2).1] at h4
    exact hR.inj n n' r r' b (hsub n r h1) (hsub n' r' h2) h3 h4 ho⟩
  refine (h (κ.upto next) us w (bnd_ok hl _ hb) hR0).mono fun en w' he => ?_
  obtain ⟨κ1, v', hle, rfl, hv, hR', hF⟩ := he
  have hlow : ∀ n, n < next → κ1.loc n = κ.loc n := fun n hn => by rw [hle.loc n hn, Kap.upto_lt _ hn]
  -- a block of a row of the part is that row's alone
  have hown : ∀ b, owned (κ.upto next) (find acc) b → ∃ n r, find acc n = some r ∧ M n = some r ∧ r.own = true ∧ κ.loc n = some (some b) := fun b ho => by
    obtain ⟨n, r, h1, h2, h3⟩ := ho
    rw [Kap.upto_lt _ (hacc n r h1).1] at h3
    exact ⟨n, r, h1, hsub n r h1, h2, h3⟩
  have hother : ∀ n r b, find acc n = none → M n = some r → κ.loc n = some (some b) → ¬ owned (κ.upto next) (find acc) b := fun n r b h1 h2 h3 ho => by
    obtain ⟨n0, r0, g1, g2, g3, g4⟩ := hown b ho
    have := hR.inj n0 n r0 r b g2 h2 g4 h3 g3
    subst this
    rw [g1] at h1; cases h1
  let κ' : Kap := ⟨fun n => if n < next then κ.loc n else if n < st'.next then κ1.loc n else κ.loc n, κ1.st, κ.gh, κ1.sz⟩
  have hκ1 : κ1.le κ' := ⟨(fun n x e => by
    show (if n < next then κ.loc n else if n < st'.next then κ1.loc n else κ.loc n) = some x
    by_cases h1 : n < next
    · rw [if_pos h1, ← hlow n h1]; exact e
    · by_cases h2 : n < st'.next
      · rw [if_neg h1, if_pos h2]; exact e
      · rw [hR'.fresh n (by omega)] at e; cases e), fun _ _ h => h, hle.gh.symm, fun _ _ h => h⟩
  have hout : ∀ n, n < next ∨ st'.next ≤ n → κ'.loc n = κ.loc n := fun n hn => by
    show (if n < next then κ.loc n else if n < st'.next then κ1.loc n else κ.loc n) = κ.loc n
    by_cases h1 : n < next
    · rw [if_pos h1]
    · rw [if_neg h1, if_neg (by omega)]
  have hin : ∀ n, n < st'.next → κ'.loc n = κ1.loc n := fun n hn => by
    show (if n < next then κ.loc n else if n < st'.next then κ1.loc n else κ.loc n) = κ1.loc n
    by_cases h1 : n < next
    · rw [if_pos h1, hlow n h1]
    · rw [if_neg h1, if_pos hn]
  have hκ : κ.le κ' := ⟨(fun n x e => by
    by_cases h1 : n < next ∨ st'.next ≤ n
    · rw [hout n h1]; exact e
    · rw [hfr n (by omega) (by omega)] at e; cases e), fun b cs e => hle.st b cs e, rfl, fun b s e => hle.sz b s e⟩
  have hM : ∀ n, (M.sets (delRows acc (revRows st'.mem []))) n = match find st'.mem n with | some r => some r | none => match find acc n with | some _ => none | none => M n := fun n => by rw [dels_sets, sets_rev]; rfl
  have hsome : ∀ n r, find st'.mem n = some r → ∃ x, κ1.loc n = some x := fun n r hr => by
    have hrow := hR'.mem.row n r hr
    cases r with
    | cells c own tip => rcases hrow with ⟨h1, _⟩ | ⟨b, _, _, _, _, h1, _⟩ <;> exact ⟨_, h1⟩
    | map kk l clock => obtain ⟨b, _, h1, _⟩ := hrow; exact ⟨_, h1⟩
    | ptab xs => obtain ⟨_, _, b, _, _, h1, _⟩ := hrow; exact ⟨_, h1⟩
  have hnewloc : ∀ n r, find st'.mem n = some r → κ'.loc n = κ1.loc n := fun n r hr => by
    obtain ⟨x, hx⟩ := hsome n r hr
    rcases Nat.lt_or_ge n st'.next with h | h
    · exact hin n h
    · rw [hR'.fresh n h] at hx; cases hx
  have holdloc : ∀ n r, M n = some r → κ'.loc n = κ.loc n := fun n r hr => by
    by_cases h1 : n < next ∨ st'.next ≤ n
    · exact hout n h1
    · have hrow := hR.row n r hr
      have := hfr n (by omega) (by omega)
      cases r with
      | cells c own tip => rcases hrow with ⟨h1, _⟩ | ⟨b, _, _, _, _, h1, _⟩ <;> (rw [this] at h1; cases h1)
      | map kk l clock => obtain ⟨b, _, h1, _⟩ := hrow; rw [this] at h1; cases h1
      | ptab xs => obtain ⟨_, _, b, _, _, h1, _⟩ := hrow; rw [this] at h1; cases h1
  -- a row of the memory: of the call, or untouched
  have hsplit : ∀ n r, (M.sets (delRows acc (revRows st'.mem []))) n = some r → (find st'.mem n = some r) ∨ (find acc n = none ∧ M n = some r) := fun n r hr => by
    rw [hM] at hr
    cases hf : find st'.mem n with
    | some r2 => rw [hf] at hr; exact .inl hr
    | none =>
      rw [hf] at hr
      cases hg : find acc n with
      | some _ => rw [hg] at hr; cases hr
      | none => rw [hg] at hr; exact .inr ⟨rfl, hr⟩
  have hblk : ∀ n r b, find st'.mem n = some r → r.own = true → κ1.loc n = some (some b) → w.heap.size ≤ b ∨ owned (κ.upto next) (find acc) b := fun n r b hr ho hb => by
    rcases Nat.lt_or_ge b w.heap.size with h | h
    · exact .inr (hF.owns b h ⟨n, r, hr, ho, hb⟩)
    · exact .inl h
  -- no row of the call that is its own lies where an untouched row does
  have hcross : ∀ n n' r r' b, find st'.mem n = some r → find acc n' = none → M n' = some r' → κ1.loc n = some (some b) → κ.loc n' = some (some b) → r.own = true → False := fun n n' r r' b h1 h2 h3 h4 h5 ho => by
    rcases hblk n r b h1 ho h4 with h | h
    · have := (hR.row n' r' h3).lt h5; omega
    · exact hother n' r' b h2 h3 h5 h
  refine ⟨κ', v', hκ, fun n hn => hout n (by dsimp only at hn; omega), rfl, hv.mono hκ1, ⟨hR'.mem.szlt, hR'.mem.stable, fun n r hn => ?_, fun n n' r r' b h1 h2 h3 h4 ho => ?_⟩, ⟨fun b cs e => ?_, hF.os, hF.tape, hF.output, hF.size, fun b hb hno => ?_, fun b hb ho => ?_⟩⟩
  · rcases hsplit n r hn with hf | ⟨hg, hf⟩
    · exact (hR'.mem.row n _ hf).mono hκ1 fun b _ hb => hb
    · have hrow := hR.row n r hf
      refine (hrow.congr (w' := w') fun b hb => hF.keep b (hrow.lt hb) (hother n r b hg hf hb)).mono hκ fun b hb hs => ?_
      show κ1.st b = none
      cases hx : κ1.st b with
      | none => rfl
      | some cs =>
        rcases hF.sts b cs hx with h | h | h
        · have h : κ.st b = some cs := h
          rw [hs] at h; cases h
        · have := hrow.lt hb; omega
        · exact absurd h (hother n r b hg hf hb)
  · rcases hsplit n r h1 with hf | ⟨hg, hf⟩
    · rw [hnewloc n _ hf] at h3
      rcases hsplit n' r' h2 with hf' | ⟨hg', hf'⟩
      · rw [hnewloc n' _ hf'] at h4
        exact hR'.mem.inj n n' _ _ b hf hf' h3 h4 ho
      · rw [holdloc n' _ hf'] at h4
        exact (hcross n n' r r' b hf hg' hf' h3 h4 ho).elim
    · rw [holdloc n _ hf] at h3
      rcases hsplit n' r' h2 with hf' | ⟨hg', hf'⟩
      · rw [hnewloc n' _ hf'] at h4
        exfalso
        cases hro : r'.own with
        | true => exact hcross n' n r' r b hf' hg hf h4 h3 hro
        | false =>
          have hrow := hR'.mem.row n' _ hf'
          cases r' with
          | map kk l clock => cases hro
          | ptab xs => cases hro
          | cells c own tip =>
            simp only [Row.own] at hro
            subst hro
            rcases hrow with ⟨g1, _⟩ | ⟨b', zs, rest, e, fr, g1, g2, g3, g4, g5, g6, g7⟩
            · rw [h4] at g1; cases g1
            · rw [h4] at g1; cases g1
              rcases hF.sts b zs (g6 rfl) with h | h | h
              · exact hR.stable_not_owned h ⟨n, r, hf, ho, h3⟩
              · have := (hR.row n r hf).lt h3; omega
              · exact hother n r b hg hf h3 h
      · rw [holdloc n' _ hf'] at h4
        exact hR.inj n n' r r' b hf hf' h3 h4 ho
  · rcases hF.sts b cs e with h | h | h
    · exact .inl h
    · exact .inr (.inl h)
    · obtain ⟨n, r, _, g2, g3, g4⟩ := hown b h
      exact .inr (.inr ⟨n, r, g2, g3, g4⟩)
  · refine hF.keep b hb fun ho => hno ?_
    obtain ⟨n, r, _, g2, g3, g4⟩ := hown b ho
    exact ⟨n, r, g2, g3, g4⟩
  · obtain ⟨n, r, h1, h2, h3⟩ := ho
    rcases hsplit n r h1 with hf | ⟨hg, hf⟩
    · rw [hnewloc n _ hf] at h3
      rcases hblk n r b hf h2 h3 with h | h
      · omega
      · obtain ⟨n0, r0, _, g2, g3, g4⟩ := hown b h
        exact ⟨n0, r0, g2, g3, g4⟩
    · rw [holdloc n _ hf] at h3
      exact ⟨n, r, hf, h2, h3⟩

/-- Fewer rows behind it. -/
theorem SoundFn.sub {g : FuncId} {vs : List AV} {st : AS} {v : AV} {st' : AS} (h : SoundFn P g vs st v st') {m : List (Nat × Row)} (hm : ∀ n r, find m n = some r → find st'.mem n = some r) : SoundFn P g vs st v ⟨st'.next, m⟩ := fun κ us w hl hR => by
  refine (h κ us w hl hR).mono fun en w' he => ?_
  obtain ⟨κ1, v', hle, rfl, hv, hR', hF⟩ := he
  exact ⟨κ1, v', hle, rfl, hv, ⟨hR'.fresh, hR'.mem.sub hm⟩, ⟨hF.sts, hF.os, hF.tape, hF.output, hF.size, hF.keep, fun b hb ho => hF.owns b hb (owned.sub hm ho)⟩⟩
/-- A call on a part of the memory, the others' rows behind it. -/
theorem SoundFn.part {g : FuncId} {vs : List AV} {st : AS} {acc rest kept m : List (Nat × Row)} {v : AV} {st1 : AS} (h : SoundFn P g vs ⟨st.next, acc⟩ v st1) (hb : bnds (bndN 6 st.next) vs = true) (ha : accOk st.next acc = true) (hn : st.next ≤ st1.next)
    (hm : ∀ n r, find acc n = some r → find st.mem n = some r) (hr : ∀ n, find rest n = match find acc n with | some _ => none | none => find st.mem n) (hk : ∀ n x, find kept n = some x → find st1.mem n = some x) (hf : ∀ n, find m n = match find kept n with | some x => some x | none => find rest n) :
    SoundFn P g vs st v ⟨st1.next, m⟩ := by
  have h1 := (h.sub hk).frame hb ha hn (find st.mem) hm
  refine h1.sound (by dsimp only; omega) (funext fun n => ?_)
  dsimp only
  rw [hf, dels_sets, sets_rev]
  show _ = (match find kept n with | some r => some r | none => match find acc n with | some _ => none | none => find st.mem n)
  rw [hr]
end
end Go.Sv
