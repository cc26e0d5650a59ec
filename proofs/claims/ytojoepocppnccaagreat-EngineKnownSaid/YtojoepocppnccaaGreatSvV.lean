/- A second evaluator for the model's code: contracts of functions that read lists and hand back what is new. -/
import Derived.Test.YtojoepocppnccaaGreatSvU
namespace Go.Sv
noncomputable section
open Go.RowKit
variable {P : Program}

/-! ### names moved on -/
def shL (f : AV → AV) : List AV → List AV
  | [] => []
  | x :: xs => f x :: shL f xs
def shA : Nat → Nat → AV → AV
  | 0, _, x => x
  | d + 1, s, x =>
    match x with
    | .ptr n p o => .ptr (s + n) p o
    | .slc n p o i w len cap => .slc (s + n) p o i w len cap
    | .mp n => .mp (s + n)
    | .agg c => .agg (shL (shA d s) c)
    | .tup c => .tup (shL (shA d s) c)
    | .ifc t x => .ifc t (shA d s x)
    | .fn f a b => .fn f (shL (shA d s) a) (shL (shA d s) b)
    | x => x
def shRow (s : Nat) : Row → Row
  | .cells c o t => .cells (shL (shA 4 s) c) o t
  | r => r
def shM (s : Nat) : List (Nat × Row) → List (Nat × Row)
  | [] => []
  | p :: m => (s + p.1, shRow s p.2) :: shM s m
/-- Values that bear no address of a block that stays. -/
def flatV : Nat → AV → Prop
  | 0, _ => False
  | d + 1, x =>
    match x with
    | .sptr _ _ | .lst _ _ _ _ => False
    | .agg c => ∀ x ∈ c, flatV d x
    | .tup c => ∀ x ∈ c, flatV d x
    | .ifc _ x => flatV d x
    | .fn _ a b => (∀ x ∈ a, flatV d x) ∧ ∀ x ∈ b, flatV d x
    | .arr _ n f us => ∀ i, i < n → ∀ x ∈ elt us f i, flatV d x
    | _ => True
theorem CRel.flat {κ κ' : Kap} {c : List AV} {zs : List Value} (h0 : ∀ n, κ.loc n = none) (hg : κ'.gh = κ.gh) (r : CRel κ c zs) : ∀ d, (∀ x ∈ c, flatV d x) → CRel κ' c zs := by
  have hd : ∀ {d : Nat} {x : AV} {xs : List AV}, (∀ y ∈ x :: xs, flatV d y) → ∃ e, d = e + 1 ∧ flatV (e + 1) x ∧ ∀ y ∈ xs, flatV d y := by
    intro d x xs h
    cases d with
    | zero => exact (h x (List.mem_cons_self ..)).elim
    | succ e => exact ⟨e, rfl, h x (List.mem_cons_self ..), fun y hy => h y (List.mem_cons_of_mem _ hy)⟩
  induction r generalizing κ' with
  | nil => intro d h; exact .nil
  | any y _ ih => intro d h; obtain ⟨e, rfl, _, h2⟩ := hd h; exact .any y (ih h0 hg _ h2)
  | bool b _ ih => intro d h; obtain ⟨e, rfl, _, h2⟩ := hd h; exact .bool b (ih h0 hg _ h2)
  | int k m _ ih => intro d h; obtain ⟨e, rfl, _, h2⟩ := hd h; exact .int k m (ih h0 hg _ h2)
  | str s _ ih => intro d h; obtain ⟨e, rfl, _, h2⟩ := hd h; exact .str s (ih h0 hg _ h2)
  | raw v _ ih => intro d h; obtain ⟨e, rfl, _, h2⟩ := hd h; exact .raw v (ih h0 hg _ h2)
  | ptr m p o b ps h1 h3 _ ih => rw [h0] at h1; cases h1
  | sptr c cs zs b off p o h1 h3 h4 h5 _ _ ih2 => intro d h; obtain ⟨e, rfl, hx, h2⟩ := hd h; exact hx.elim
  | slc m ps o i w len cap b cap' a h1 h3 h4 h5 _ ih => rw [h0] at h1; cases h1
  | slc0 m o i w ps h1 _ ih => rw [h0] at h1; cases h1
  | lst w len b off cap f us' cs h1 h3 h4 ho h5 h6 _ _ ih2 => intro d h; obtain ⟨e, rfl, hx, h2⟩ := hd h; exact hx.elim
  | lst0 w cap f us' a _ ih => intro d h; obtain ⟨e, rfl, hx, h2⟩ := hd h; exact hx.elim
  | agg c zs _ _ ih1 ih2 =>
    intro d h; obtain ⟨e, rfl, hx, h2⟩ := hd h
    exact .agg c zs (ih1 h0 hg e hx) (ih2 h0 hg _ h2)
  | tup c zs _ _ ih1 ih2 =>
    intro d h; obtain ⟨e, rfl, hx, h2⟩ := hd h
    exact .tup c zs (ih1 h0 hg e hx) (ih2 h0 hg _ h2)
  | ifc t x y _ _ ih1 ih2 =>
    intro d h; obtain ⟨e, rfl, hx, h2⟩ := hd h
    exact .ifc t x y (ih1 h0 hg e fun z hz => by rw [List.mem_singleton.1 hz]; exact hx) (ih2 h0 hg _ h2)
  | fn f a b as bs _ _ _ ih1 ih2 ih3 =>
    intro d h; obtain ⟨e, rfl, hx, h2⟩ := hd h
    exact .fn f a b as bs (ih1 h0 hg e hx.1) (ih2 h0 hg e hx.2) (ih3 h0 hg _ h2)
  | mp m b h1 _ ih => rw [h0] at h1; cases h1
  | arr w m f us' zs h1 ho h3 h4 h5 _ ih1 ih2 =>
    intro d h; obtain ⟨e, rfl, hx, h2⟩ := hd h
    exact .arr w m f us' zs h1 ho h3 (fun i hi => ih1 i hi (κ' := κ'.nl) (fun _ => rfl) hg e (hx i hi)) h5 (ih2 h0 hg _ h2)
  | gh g y h1 _ ih => intro d h; obtain ⟨e, rfl, _, h2⟩ := hd h; exact .gh g y (by rw [h1, hg]) (ih h0 hg _ h2)
theorem CRel.shift {κ κ' : Kap} {s : Nat} {c : List AV} {zs : List Value} (hl : ∀ n x, κ.loc n = some x → κ'.loc (s + n) = some x) (hg : κ'.gh = κ.gh) (hz : ∀ b n, κ.sz b = some n → κ'.sz b = some n) (r : CRel κ c zs) :
    ∀ d, (∀ x ∈ c, flatV d x) → CRel κ' (shL (shA d s) c) zs := by
  have hd : ∀ {d : Nat} {x : AV} {xs : List AV}, (∀ y ∈ x :: xs, flatV d y) → ∃ e, d = e + 1 ∧ flatV (e + 1) x ∧ ∀ y ∈ xs, flatV d y := by
    intro d x xs h
    cases d with
    | zero => exact (h x (List.mem_cons_self ..)).elim
    | succ e => exact ⟨e, rfl, h x (List.mem_cons_self ..), fun y hy => h y (List.mem_cons_of_mem _ hy)⟩
  induction r generalizing κ' with
  | nil => intro d h; exact .nil
  | any y _ ih => intro d h; obtain ⟨e, rfl, _, h2⟩ := hd h; exact .any y (ih hl hg hz _ h2)
  | bool b _ ih => intro d h; obtain ⟨e, rfl, _, h2⟩ := hd h; exact .bool b (ih hl hg hz _ h2)
  | int k m _ ih => intro d h; obtain ⟨e, rfl, _, h2⟩ := hd h; exact .int k m (ih hl hg hz _ h2)
  | str t _ ih => intro d h; obtain ⟨e, rfl, _, h2⟩ := hd h; exact .str t (ih hl hg hz _ h2)
  | raw v _ ih => intro d h; obtain ⟨e, rfl, _, h2⟩ := hd h; exact .raw v (ih hl hg hz _ h2)
  | ptr m p o b ps h1 h3 _ ih => intro d h; obtain ⟨e, rfl, _, h2⟩ := hd h; exact .ptr _ p o b ps (hl _ _ h1) h3 (ih hl hg hz _ h2)
  | sptr c cs zs b off p o h1 h3 h4 h5 _ _ ih2 => intro d h; obtain ⟨e, rfl, hx, h2⟩ := hd h; exact hx.elim
  | slc m ps o i w len cap b cap' a h1 h3 h4 h5 _ ih =>
    intro d h; obtain ⟨e, rfl, _, h2⟩ := hd h
    exact .slc _ ps o i w len cap b cap' a (hl _ _ h1) (h3.imp id fun ⟨e1, t, e2, e3⟩ => ⟨e1, t, hz _ _ e2, e3⟩) h4 h5 (ih hl hg hz _ h2)
  | slc0 m o i w ps h1 _ ih => intro d h; obtain ⟨e, rfl, _, h2⟩ := hd h; exact .slc0 _ o i w ps (hl _ _ h1) (ih hl hg hz _ h2)
  | lst w len b off cap f us' cs h1 h3 h4 ho h5 h6 _ _ ih2 => intro d h; obtain ⟨e, rfl, hx, h2⟩ := hd h; exact hx.elim
  | lst0 w cap f us' a _ ih => intro d h; obtain ⟨e, rfl, hx, h2⟩ := hd h; exact hx.elim
  | agg c zs _ _ ih1 ih2 =>
    intro d h; obtain ⟨e, rfl, hx, h2⟩ := hd h
    exact .agg _ zs (ih1 hl hg hz e hx) (ih2 hl hg hz _ h2)
  | tup c zs _ _ ih1 ih2 =>
    intro d h; obtain ⟨e, rfl, hx, h2⟩ := hd h
    exact .tup _ zs (ih1 hl hg hz e hx) (ih2 hl hg hz _ h2)
  | ifc t x y _ _ ih1 ih2 =>
    intro d h; obtain ⟨e, rfl, hx, h2⟩ := hd h
    exact .ifc t _ y (ih1 hl hg hz e fun z hz => by rw [List.mem_singleton.1 hz]; exact hx) (ih2 hl hg hz _ h2)
  | fn f a b as bs _ _ _ ih1 ih2 ih3 =>
    intro d h; obtain ⟨e, rfl, hx, h2⟩ := hd h
    exact .fn f _ _ as bs (ih1 hl hg hz e hx.1) (ih2 hl hg hz e hx.2) (ih3 hl hg hz _ h2)
  | mp m b h1 _ ih => intro d h; obtain ⟨e, rfl, _, h2⟩ := hd h; exact .mp _ b (hl _ _ h1) (ih hl hg hz _ h2)
  | arr w m f us' zs h1 ho h3 h4 h5 _ _ ih2 =>
    intro d h; obtain ⟨e, rfl, hx, h2⟩ := hd h
    exact .arr w m f us' zs h1 ho h3 (fun i hi => CRel.flat (κ := Kap.nl _) (fun _ => rfl) hg (h4 i hi) e (hx i hi)) h5 (ih2 hl hg hz _ h2)
  | gh g y h1 _ ih => intro d h; obtain ⟨e, rfl, _, h2⟩ := hd h; exact .gh g y (by rw [h1, hg]) (ih hl hg hz _ h2)

/-! ### what is handed back is new -/
def FlatRow : Row → Prop
  | .cells c own _ => own = true ∧ ∀ x ∈ c, flatV 4 x
  | .map _ l _ => ∀ e ∈ l, flatV 4 e.2.2
  | .ptab _ => True
def FlatSt (v : AV) (st : AS) : Prop := flatV 4 v ∧ ∀ p ∈ st.mem, FlatRow p.2
theorem find_shM {s : Nat} : ∀ (m : List (Nat × Row)) (n : Nat), find (shM s m) n = if s ≤ n then (find m (n - s)).map (shRow s) else none
  | [], n => by simp [shM, find]
  | p :: m, n => by
    simp only [shM, find, find_shM m n]
    by_cases h : s ≤ n
    · rw [if_pos h, if_pos h]
      by_cases e : s + p.1 = n
      · subst e
        rw [show Nat.beq (s + p.1) (s + p.1) = true from by simp, show s + p.1 - s = p.1 from by omega]
        simp
      · rw [beq_false e, beq_false (show p.1 ≠ n - s by omega)]; rfl
    · rw [if_neg h, if_neg h, beq_false (by omega)]; rfl
theorem Ents.flat {κ κ' : Kap} (hg : κ'.gh = κ.gh) {kk : Option IntKind} : ∀ {l : List (Key × Nat × AV)} {es : List MapEntry}, (∀ e ∈ l, flatV 4 e.2.2) → Ents κ kk l es → Ents κ' kk l es
  | [], [], _, _ => trivial
  | (k, b, v) :: l, e :: es, h, r => ⟨⟨r.1.1, CRel.flat (κ := κ.nl) (fun _ => rfl) hg r.1.2 4 fun x hx => by rw [List.mem_singleton.1 hx]; exact h _ (List.mem_cons_self ..)⟩, Ents.flat hg (fun e he => h e (List.mem_cons_of_mem _ he)) r.2⟩
  | [], _ :: _, _, r => r.elim
  | _ :: _, [], _, r => r.elim
theorem pt_flat {xs : List (Int × Int)} {l : List (Key × Nat × AV)} (h : PT xs l) : ∀ e ∈ l, flatV 4 e.2.2 := fun e he => by
  have h1 : (e.1, e.2.2) ∈ l.map fun e => (e.1, e.2.2) := List.mem_map.2 ⟨e, he, rfl⟩
  rw [h] at h1
  obtain ⟨x, _, hx⟩ := List.mem_map.1 h1
  have : e.2.2 = AV.int .i64 x.2 := (congrArg Prod.snd hx).symm
  rw [this]; trivial
theorem shRow_own {s : Nat} {r : Row} : (shRow s r).own = r.own := by cases r <;> rfl

theorem read_ent {g : FuncId} {xs vs : List AV} {rd : List Nat} {next : Nat} {m : List (Nat × Row)} {v : AV} {st' : AS} (hf : FlatSt v st')
    (hsh : ∀ (κ : Kap) (w : World) (M : Mem), MRel κ M w → (∀ n ∈ rd, ∀ c o t, find m n = some (.cells c o t) → M n = some (.cells c false t)) → ∀ zs, CRel κ xs zs → CRel κ.nl vs zs)
    (h : SoundFn P g vs ⟨0, []⟩ v st') : CallEnt P g xs next (find m) ⟨shA 4 next v, revRows (shM next st'.mem) [], st'.next, rd⟩ := by
  intro κ us w M hl hR hrd hfr
  dsimp only at hrd hfr
  obtain ⟨κf, f1, f2, f3, f4, f5, f6⟩ := MRel.freezeAll (m := m) rd hR fun n hn c o t hc => .inl (by rw [hrd n hn]; exact hc)
  have hvs : CRel κf.nl vs us := hsh κf w _ f3 f6 us (hl.mono f1)
  have hR0 : Rel κf.nl ⟨0, []⟩ w := ⟨fun _ _ => rfl, f3.szlt, f3.stable, fun n r h => by simp [find] at h, fun n n' r r' b h => by simp [find] at h⟩
  refine (h κf.nl us w hvs hR0).mono fun en w' he => ?_
  obtain ⟨κ1, v', hle, rfl, hv, hR', hF⟩ := he
  have hno : ∀ b, ¬ owned κf.nl (find ([] : List (Nat × Row))) b := fun b ho => by obtain ⟨n, r, h1, _⟩ := ho; simp [find] at h1
  have hbl : Below w.heap.size w w' := hF.below hno
  have hblk : ∀ n r b, find st'.mem n = some r → r.own = true → κ1.loc n = some (some b) → w.heap.size ≤ b := fun n r b hr ho hb => by
    rcases Nat.lt_or_ge b w.heap.size with h | h
    · exact absurd (hF.owns b h ⟨n, r, hr, ho, hb⟩) (hno b)
    · exact h
  let κ' : Kap := ⟨fun n => if next ≤ n ∧ n < next + st'.next then κ1.loc (n - next) else κ.loc n, fun b => if b < w.heap.size then κ.st b else κ1.st b, κ.gh, κ1.sz⟩
  have hgh : κ'.gh = κ1.gh := by show κ.gh = κ1.gh; rw [hle.gh]; exact f1.gh.symm
  have hin : ∀ j, j < st'.next → κ'.loc (next + j) = κ1.loc j := fun j hj => by
    show (if next ≤ next + j ∧ next + j < next + st'.next then κ1.loc (next + j - next) else κ.loc (next + j)) = _
    rw [if_pos ⟨by omega, by omega⟩, show next + j - next = j from by omega]
  have hout : ∀ n, n < next ∨ next + st'.next ≤ n → κ'.loc n = κ.loc n := fun n hn => by
    show (if next ≤ n ∧ n < next + st'.next then κ1.loc (n - next) else κ.loc n) = _
    rw [if_neg (by omega)]
  have hloc : ∀ n x, κ1.loc n = some x → κ'.loc (next + n) = some x := fun n x hx => by
    rcases Nat.lt_or_ge n st'.next with h | h
    · rw [hin n h]; exact hx
    · rw [hR'.fresh n h] at hx; cases hx
  have hst : ∀ b cs, κ.st b = some cs → b < w.heap.size := fun b cs hb => by
    obtain ⟨rest, e, fr, hx⟩ := hR.stable b cs hb
    exact (Array.getElem?_eq_some_iff.1 hx).1
  have hκ : κ.le κ' := ⟨(fun n x e => by
    by_cases h1 : n < next ∨ next + st'.next ≤ n
    · rw [hout n h1]; exact e
    · rw [hfr n (by omega) (by omega)] at e; cases e), (fun b cs e => by
    show (if b < w.heap.size then κ.st b else κ1.st b) = some cs
    rw [if_pos (hst b cs e)]; exact e), rfl, fun b s e => hle.sz b s (f1.sz b s e)⟩
  have hM : ∀ n, (M.sets (revRows (shM next st'.mem) [])) n = match find (shM next st'.mem) n with | some r => some r | none => M n := fun n => by rw [sets_rev]; rfl
  have hsplit : ∀ n r, (M.sets (revRows (shM next st'.mem) [])) n = some r → (∃ j r0, n = next + j ∧ find st'.mem j = some r0 ∧ r = shRow next r0 ∧ j < st'.next) ∨ M n = some r := fun n r hr => by
    rw [hM, find_shM] at hr
    by_cases hn : next ≤ n
    · rw [if_pos hn] at hr
      cases hf : find st'.mem (n - next) with
      | some r0 =>
        rw [hf] at hr
        simp only [Option.map_some, Option.some.injEq] at hr
        refine .inl ⟨n - next, r0, by omega, hf, hr.symm, ?_⟩
        rcases Nat.lt_or_ge (n - next) st'.next with h | h
        · exact h
        · have hrow := hR'.mem.row _ _ hf
          have := hR'.fresh _ h
          cases r0 with
          | cells c own tip => rcases hrow with ⟨h1, _⟩ | ⟨b, _, _, _, _, h1, _⟩ <;> (rw [this] at h1; cases h1)
          | map kk l clock => obtain ⟨b, _, h1, _⟩ := hrow; rw [this] at h1; cases h1
          | ptab xs => obtain ⟨_, _, b, _, _, h1, _⟩ := hrow; rw [this] at h1; cases h1
      | none => rw [hf] at hr; exact .inr hr
    · rw [if_neg hn] at hr; exact .inr hr
  have hflat : ∀ n r, find st'.mem n = some r → FlatRow r := fun n r hr => hf.2 _ (find_mem _ _ _ hr)
  have hown : ∀ n r, find st'.mem n = some r → r.own = true := fun n r hr => by
    have := hflat n r hr
    cases r with
    | cells c own tip => exact this.1
    | map _ _ _ => rfl
    | ptab _ => rfl
  have hold : ∀ n r, M n = some r → κ'.loc n = κ.loc n := fun n r hr => by
    by_cases h1 : n < next ∨ next + st'.next ≤ n
    · exact hout n h1
    · have hrow := hR.row n r hr
      have := hfr n (by omega) (by omega)
      cases r with
      | cells c own tip => rcases hrow with ⟨h1, _⟩ | ⟨b, _, _, _, _, h1, _⟩ <;> (rw [this] at h1; cases h1)
      | map kk l clock => obtain ⟨b, _, h1, _⟩ := hrow; rw [this] at h1; cases h1
      | ptab xs => obtain ⟨_, _, b, _, _, h1, _⟩ := hrow; rw [this] at h1; cases h1
  refine ⟨κ', v', hκ, fun n hn => hout n hn, rfl, ?_, ⟨fun b s hs => hR'.mem.szlt b s hs, fun b cs hs => ?_, fun n r hn => ?_, fun n n' r r' b h1 h2 h3 h4 ho => ?_⟩, ⟨fun b cs e => ?_, hF.os, hF.tape, hF.output, hF.size, fun b hb _ => hbl.block b hb, fun b hb ho => ?_⟩⟩
  · exact CRel.shift hloc hgh (fun b n h => h) hv 4 fun x hx => by rw [List.mem_singleton.1 hx]; exact hf.1
  · change (if b < w.heap.size then κ.st b else κ1.st b) = some cs at hs
    by_cases hb : b < w.heap.size
    · rw [if_pos hb] at hs
      obtain ⟨rest, e, fr, hx⟩ := hR.stable b cs hs
      exact ⟨rest, e, fr, by rw [hbl.block b hb]; exact hx⟩
    · rw [if_neg hb] at hs; exact hR'.mem.stable b cs hs
  · rcases hsplit n r hn with ⟨j, r0, rfl, hj, rfl, hlt⟩ | hn'
    · have hrow := hR'.mem.row j r0 hj
      have hfl := hflat j r0 hj
      cases r0 with
      | cells c own tip =>
        obtain ⟨rfl, hfl⟩ := hfl
        rcases hrow with ⟨h1, h2⟩ | ⟨b, zs, rest, e, fr, h1, h2, h3, h4, h5, h6, h7⟩
        · exact .inl ⟨hloc _ _ h1, CRel.shift hloc hgh (fun b n h => h) h2 4 hfl⟩
        · refine .inr ⟨b, zs, rest, e, fr, hloc _ _ h1, h2, CRel.shift hloc hgh (fun b n h => h) h3 4 hfl, h4, fun _ => ⟨(h5 rfl).1, ?_⟩, (fun h => by cases h), h7⟩
          show (if b < w.heap.size then κ.st b else κ1.st b) = none
          rw [if_neg (Nat.not_lt.2 (hblk j _ b hj rfl h1))]; exact (h5 rfl).2
      | map kk l clock =>
        obtain ⟨b, es, h1, h2, h3⟩ := hrow
        exact ⟨b, es, hloc _ _ h1, h2, Ents.flat (κ := κ1) hgh hfl h3.ent, h3.stamped⟩
      | ptab xs =>
        obtain ⟨l, clock, b, es, h0, h1, h2, h3⟩ := hrow
        exact ⟨l, clock, b, es, h0, hloc _ _ h1, h2, Ents.flat (κ := κ1) hgh (pt_flat h0) h3.ent, h3.stamped⟩
    · have hrow := hR.row n r hn'
      refine (hrow.congr (w' := w') fun b hb => hbl.block b (hrow.lt hb)).mono hκ fun b hb hs => ?_
      show (if b < w.heap.size then κ.st b else κ1.st b) = none
      rw [if_pos (hrow.lt hb)]; exact hs
  · rcases hsplit n r h1 with ⟨j, r0, rfl, hj, rfl, hlt⟩ | h1'
    · rw [hin j hlt] at h3
      rcases hsplit n' r' h2 with ⟨j', r0', rfl, hj', rfl, hlt'⟩ | h2'
      · rw [hin j' hlt'] at h4
        have := hR'.mem.inj j j' _ _ b hj hj' h3 h4 (hown j _ hj)
        rw [this]
      · rw [hold n' _ h2'] at h4
        have := (hR.row n' r' h2').lt h4
        have := hblk j _ b hj (hown j _ hj) h3
        omega
    · rw [hold n _ h1'] at h3
      rcases hsplit n' r' h2 with ⟨j', r0', rfl, hj', rfl, hlt'⟩ | h2'
      · rw [hin j' hlt'] at h4
        have := (hR.row n r h1').lt h3
        have := hblk j' _ b hj' (hown j' _ hj') h4
        omega
      · rw [hold n' _ h2'] at h4
        exact hR.inj n n' r r' b h1' h2' h3 h4 ho
  · change (if b < w.heap.size then κ.st b else κ1.st b) = some cs at e
    by_cases hb : b < w.heap.size
    · rw [if_pos hb] at e; exact .inl e
    · exact .inr (.inl (by omega))
  · obtain ⟨n, r, h1, h2, h3⟩ := ho
    rcases hsplit n r h1 with ⟨j, r0, rfl, hj, rfl, hlt⟩ | h1'
    · rw [hin j hlt] at h3
      have := hblk j _ b hj (hown j _ hj) h3
      omega
    · rw [hold n _ h1'] at h3
      exact ⟨n, r, h1', h2, h3⟩

/-! ### what is handed in: lists that stay, structs of them -/
section
variable {R : Type}
def shed2K (m : List (Nat × Row)) (x : AV) (k : AV → List Nat → Option R) : Option R :=
  match x with
  | .agg c => shedK m c fun c' ns => k (.agg c') ns
  | x => shed1K m x k
def shedsK (m : List (Nat × Row)) : List AV → (List AV → List Nat → Option R) → Option R
  | [], k => k [] []
  | x :: xs, k => shed2K m x fun y ns => shedsK m xs fun ys ns' => k (y :: ys) (ns ++ ns')
end
theorem shed2K_ok {R : Type} {m : List (Nat × Row)} {x : AV} {k : AV → List Nat → Option R} {r : R} (h : shed2K m x k = some r) :
    ∃ y ns, k y ns = some r ∧ (∀ n ∈ ns, ∃ c o t, find m n = some (.cells c o t)) ∧
      ∀ (κ : Kap) (w : World) (M : Mem), MRel κ M w → (∀ n ∈ ns, ∀ c o t, find m n = some (.cells c o t) → M n = some (.cells c false t)) → ∀ ys, CRel κ [x] ys → CRel κ.nl [y] ys := by
  unfold shed2K at h
  split at h
  · obtain ⟨ys, ns, h1, _, h3, h4⟩ := shedK_ok _ h
    exact ⟨_, ns, h1, h3, fun κ w M hR hM zs hz => by
      cases hz with | agg c zs h5 h6 => cases h6; exact .agg _ _ (h4 κ w M hR hM _ h5) .nil⟩
  · obtain ⟨y, ns, h1, _, h3, h4⟩ := shed1K_ok h
    exact ⟨y, ns, h1, h3, h4⟩
theorem shedsK_ok {R : Type} {m : List (Nat × Row)} {r : R} : ∀ (xs : List AV) {k : List AV → List Nat → Option R}, shedsK m xs k = some r →
    ∃ ys ns, k ys ns = some r ∧ (∀ n ∈ ns, ∃ c o t, find m n = some (.cells c o t)) ∧
      ∀ (κ : Kap) (w : World) (M : Mem), MRel κ M w → (∀ n ∈ ns, ∀ c o t, find m n = some (.cells c o t) → M n = some (.cells c false t)) → ∀ zs, CRel κ xs zs → CRel κ.nl ys zs
  | [], k, h => ⟨[], [], h, (fun n hn => by cases hn), fun κ w M _ _ zs hz => by cases hz; exact .nil⟩
  | x :: xs, k, h => by
    simp only [shedsK] at h
    obtain ⟨y, ns, h1, h3, h4⟩ := shed2K_ok h
    obtain ⟨ys, ns', g1, g3, g4⟩ := shedsK_ok xs h1
    refine ⟨_, _, g1, fun n hn => ?_, fun κ w M hR hM zs hz => ?_⟩
    · rcases List.mem_append.1 hn with h | h
      · exact h3 n h
      · exact g3 n h
    · obtain ⟨z1, z2, rfl, a1, a2⟩ := hz.cons_inv
      have b1 := h4 κ w M hR (fun n hn => hM n (List.mem_append_left _ hn)) z1 a1
      have b2 := g4 κ w M hR (fun n hn => hM n (List.mem_append_right _ hn)) z2 a2
      simpa using b1.append b2

/-! ### tables of contracts -/
abbrev SpecT := (R : Type) → FuncId → List AV → (AV → AS → Option R) → Option R
/-- What a table says holds. -/
def SpecOk (P : Program) (has : FuncId → Bool) (S : SpecT) : Prop := ∀ (R : Type) g vs (k : AV → AS → Option R) r, has g = true → S R g vs k = some r → ∃ v st', k v st' = some r ∧ FlatSt v st' ∧ SoundFn P g vs ⟨0, []⟩ v st'
def specK (has : FuncId → Bool) (S : SpecT) : KT := fun R g vs st =>
  bif has g then some (fun k => shedsK st.mem vs fun vs' rd => S R g vs' fun v st' => k ⟨shA 4 st.next v, revRows (shM st.next st'.mem) [], st'.next, rd⟩) else none
theorem specK_ok {has : FuncId → Bool} {S : SpecT} (h : SpecOk P has S) : KOk P (specK has S) := fun R g vs st F hF k r hk => by
  unfold specK at hF
  obtain ⟨hg, h1⟩ := cond_some hF
  simp only [Option.some.injEq] at h1
  subst h1
  obtain ⟨ys, ns, a1, _, a4⟩ := shedsK_ok vs hk
  obtain ⟨v, st', b1, b2, b3⟩ := h R g ys _ r hg a1
  exact ⟨_, b1, read_ent b2 a4 b3⟩
def orK (K1 K2 : KT) : KT := fun R g vs st =>
  match K1 R g vs st with
  | some F => some F
  | none => K2 R g vs st
theorem orK_ok {K1 K2 : KT} (h1 : KOk P K1) (h2 : KOk P K2) : KOk P (orK K1 K2) := fun R g vs st F hF k r hk => by
  unfold orK at hF
  split at hF
  · rename_i F' hF'
    simp only [Option.some.injEq] at hF
    subst hF
    exact h1 R g vs st _ hF' k r hk
  · exact h2 R g vs st F hF k r hk
def K0 : KT := fun _ _ _ _ => none
theorem k0_ok : KOk P K0 := fun R g vs st F h => by simp [K0] at h
def L0 : LT := fun _ _ _ _ _ => none
theorem l0_ok : LOk P L0 := ⟨fun R g id E st F h => by simp [L0] at h, fun R g id E st F h => by simp [L0] at h⟩
def has0 : FuncId → Bool := fun _ => false
def S0 : SpecT := fun _ _ _ _ => none
theorem s0_ok : SpecOk P has0 S0 := fun R g vs k r h => by simp [has0] at h
/-- One function more. -/
def addHas (g0 : FuncId) (has : FuncId → Bool) : FuncId → Bool := fun g => bif Nat.beq g g0 then true else has g
def addS (g0 : FuncId) (F : (R : Type) → List AV → (AV → AS → Option R) → Option R) (S : SpecT) : SpecT := fun R g vs k => bif Nat.beq g g0 then F R vs k else S R g vs k
def FnOk (P : Program) (g : FuncId) (F : (R : Type) → List AV → (AV → AS → Option R) → Option R) : Prop := ∀ (R : Type) vs (k : AV → AS → Option R) r, F R vs k = some r → ∃ v st', k v st' = some r ∧ FlatSt v st' ∧ SoundFn P g vs ⟨0, []⟩ v st'
theorem addS_ok {g0 : FuncId} {F : (R : Type) → List AV → (AV → AS → Option R) → Option R} {has : FuncId → Bool} {S : SpecT} (hF : FnOk P g0 F) (hS : SpecOk P has S) : SpecOk P (addHas g0 has) (addS g0 F S) := fun R g vs k r hg h => by
  unfold addHas at hg
  unfold addS at h
  cases hb : Nat.beq g g0 with
  | true =>
    have := Nat.eq_of_beq_eq_true hb
    subst this
    rw [hb] at h
    exact hF R vs k r h
  | false => rw [hb] at hg h; exact hS R g vs k r hg h

/-! ### what a call comes to, said less -/
theorem SoundFn.pull {g : FuncId} {vs : List AV} {v v2 : AV} {st1 st2 : AS} (ρ : Nat → Nat) (h : SoundFn P g vs ⟨0, []⟩ v st1) (hv : ∀ κ y, VRel κ v y → VRel (κ.pull ρ st2.next) v2 y)
    (hM : ∀ n r2, find st2.mem n = some r2 → ∃ r1, find st1.mem (ρ n) = some r1 ∧ RowLe ρ st2.next n r1 r2 ∧ (r2.own = true → r1.own = true))
    (hi : ∀ n n' r r', find st2.mem n = some r → find st2.mem n' = some r' → ρ n = ρ n' → n = n') : SoundFn P g vs ⟨0, []⟩ v2 st2 := fun κ us w hl hR => by
  refine (h κ us w hl hR).mono fun en w' he => ?_
  obtain ⟨κ1, v', hle, rfl, hv', hR', hF⟩ := he
  obtain ⟨a2, a3⟩ := pull_rel ρ hR' hM hi
  exact ⟨κ1.pull ρ st2.next, v', ⟨(fun n hn => by simp at hn), fun b cs h => hle.st b cs h, hle.gh, fun b s h => hle.sz b s h⟩, rfl, hv κ1 v' hv', a2, hF.trans a3⟩
end
end Go.Sv
