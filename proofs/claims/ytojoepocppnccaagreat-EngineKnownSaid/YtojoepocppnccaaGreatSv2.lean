/- A second evaluator for the model's code: its memory, what that is in a world, and what stays. -/
import Derived.Test.YtojoepocppnccaaGreatSv1
import Derived.MapKept
namespace Go.Sv
open Go.RowKit

/-! ### rows -/
inductive Key where
  | i (n : Int)
  | s (l : List UInt8)
/-- A row: cells (one's own, or such as stay; 'tip': the block may be longer), or a map. -/
inductive Row where
  | cells (c : List AV) (own tip : Bool)
  | map (kk : Option IntKind) (l : List (Key × Nat × AV)) (clock : Nat)
  | ptab (xs : List (Int × Int))
def Row.own : Row → Bool
  | .cells _ o _ => o
  | .map _ _ _ => true
  | .ptab _ => true
structure AS where
  next : Nat
  mem : List (Nat × Row)
abbrev Mem := Nat → Option Row
def find : List (Nat × Row) → Nat → Option Row
  | [], _ => none
  | (k, o) :: r, n => bif Nat.beq k n then some o else find r n
def Mem.set (M : Mem) (n : Nat) (r : Option Row) : Mem := fun m => if m = n then r else M m
theorem Mem.set_same (M : Mem) (n : Nat) (r : Option Row) : M.set n r n = r := by simp [Mem.set]
theorem Mem.set_ne (M : Mem) {n m : Nat} (r : Option Row) (h : m ≠ n) : M.set n r m = M m := by simp [Mem.set, h]

def KeyV : Option IntKind → Key → Value → Prop
  | some k, .i n, .int k' n' => k' = k ∧ n' = n
  | none, .s l, .string b => b = ⟨l.toArray⟩
  | _, _, _ => False
def Ents (κ : Kap) (kk : Option IntKind) : List (Key × Nat × AV) → List MapEntry → Prop
  | [], [] => True
  | (k, b, v) :: l, e :: es => ((KeyV kk k e.key ∧ e.born = b) ∧ VRel κ.nl v e.val) ∧ Ents κ kk l es
  | _, _ => False
structure MapRel (κ : Kap) (kk : Option IntKind) (l : List (Key × Nat × AV)) (es : Array MapEntry) (clock : Nat) : Prop where
  ent : Ents κ kk l es.toList
  stamped : MapKept.Stamped es clock
theorem Ents.mono {κ κ' : Kap} (h : κ.nl.le κ'.nl) {kk : Option IntKind} : ∀ {l : List (Key × Nat × AV)} {es : List MapEntry}, Ents κ kk l es → Ents κ' kk l es
  | [], [], _ => trivial
  | (_, _, _) :: _, _ :: _, r => ⟨⟨r.1.1, r.1.2.mono h⟩, Ents.mono h r.2⟩
  | [], _ :: _, r => r.elim
  | _ :: _, [], r => r.elim

/-- A map of numbers by numbers: its pairs alone. -/
def PT (xs : List (Int × Int)) (l : List (Key × Nat × AV)) : Prop := l.map (fun e => (e.1, e.2.2)) = xs.map fun x => (Key.i x.1, AV.int .i64 x.2)
def RowRel (κ : Kap) (w : World) (n : Nat) : Row → Prop
  | .cells c own tip => (κ.loc n = some none ∧ CRel κ c []) ∨
      ∃ b zs rest e fr, κ.loc n = some (some b) ∧ w.heap[b]? = some (.cells (zs ++ rest).toArray e fr) ∧ CRel κ c zs ∧ (tip = false → rest = []) ∧
        (own = true → fr = (0, 0) ∧ κ.st b = none) ∧ (own = false → κ.st b = some zs) ∧ κ.sz b = some (zs ++ rest).length
  | .map kk l clock => ∃ b es, κ.loc n = some (some b) ∧ w.heap[b]? = some (.map es clock) ∧ MapRel κ kk l es clock
  | .ptab xs => ∃ l clock b es, PT xs l ∧ κ.loc n = some (some b) ∧ w.heap[b]? = some (.map es clock) ∧ MapRel κ (some .i64) l es clock

structure MRel (κ : Kap) (M : Mem) (w : World) : Prop where
  szlt : ∀ b s, κ.sz b = some s → b < w.heap.size
  stable : ∀ b cs, κ.st b = some cs → ∃ rest e fr, w.heap[b]? = some (.cells (cs ++ rest).toArray e fr)
  row : ∀ n r, M n = some r → RowRel κ w n r
  inj : ∀ n n' r r' b, M n = some r → M n' = some r' → κ.loc n = some (some b) → κ.loc n' = some (some b) → r.own = true → n = n'
structure Rel (κ : Kap) (st : AS) (w : World) : Prop where
  fresh : ∀ n, st.next ≤ n → κ.loc n = none
  mem : MRel κ (find st.mem) w

/-- A block that is a row's, and one's own. -/
def owned (κ : Kap) (M : Mem) (b : Nat) : Prop := ∃ n r, M n = some r ∧ r.own = true ∧ κ.loc n = some (some b)

/-- What a run leaves as it was. -/
structure Fr (κ : Kap) (M : Mem) (w : World) (κ' : Kap) (M' : Mem) (w' : World) : Prop where
  sts : ∀ b cs, κ'.st b = some cs → κ.st b = some cs ∨ w.heap.size ≤ b ∨ owned κ M b
  os : w'.os = w.os
  tape : w'.tape = w.tape
  output : w'.output = w.output
  size : w.heap.size ≤ w'.heap.size
  keep : ∀ b, b < w.heap.size → ¬ owned κ M b → w'.heap[b]? = w.heap[b]?
  owns : ∀ b, b < w.heap.size → owned κ' M' b → owned κ M b

theorem Fr.refl (κ : Kap) (M : Mem) (w : World) : Fr κ M w κ M w := ⟨fun _ _ h => .inl h, rfl, rfl, rfl, Nat.le_refl _, fun _ _ _ => rfl, fun _ _ h => h⟩
theorem Fr.trans {κ κ1 κ2 : Kap} {M M1 M2 : Mem} {w w1 w2 : World} (h : Fr κ M w κ1 M1 w1) (k : Fr κ1 M1 w1 κ2 M2 w2) : Fr κ M w κ2 M2 w2 :=
  ⟨fun b cs hs => by
      rcases k.sts b cs hs with h1 | h1 | h1
      · exact h.sts b cs h1
      · exact .inr (.inl (Nat.le_trans h.size h1))
      · by_cases hb : b < w.heap.size
        · exact .inr (.inr (h.owns b hb h1))
        · exact .inr (.inl (by omega)),
    k.os.trans h.os, k.tape.trans h.tape, k.output.trans h.output, Nat.le_trans h.size k.size,
    fun b hb hn => (k.keep b (Nat.lt_of_lt_of_le hb h.size) fun ho => hn (h.owns b hb ho)).trans (h.keep b hb hn),
    fun b hb ho => h.owns b hb (k.owns b (Nat.lt_of_lt_of_le hb h.size) ho)⟩
theorem Fr.below {κ κ' : Kap} {M M' : Mem} {w w' : World} (h : Fr κ M w κ' M' w') (hn : ∀ b, ¬ owned κ M b) : Below w.heap.size w w' :=
  ⟨h.os, h.tape, h.output, h.size, fun b hb => h.keep b hb (hn b)⟩

theorem owned.mono {κ κ' : Kap} (h : κ.le κ') {M : Mem} {b : Nat} (o : owned κ M b) : owned κ' M b := by
  obtain ⟨n, r, h1, h2, h3⟩ := o
  exact ⟨n, r, h1, h2, h.loc _ _ h3⟩

theorem RowRel.mono {κ κ' : Kap} (h : κ.le κ') {w : World} {n : Nat} (hs : ∀ b, κ.loc n = some (some b) → κ.st b = none → κ'.st b = none) {r : Row} (hr : RowRel κ w n r) : RowRel κ' w n r := by
  cases r with
  | cells c own tip =>
    rcases hr with ⟨h1, h2⟩ | ⟨b, zs, rest, e, fr, h1, h2, h3, h4, h5, h6, h7⟩
    · exact .inl ⟨h.loc _ _ h1, h2.mono h⟩
    · exact .inr ⟨b, zs, rest, e, fr, h.loc _ _ h1, h2, h3.mono h, h4, fun ho => ⟨(h5 ho).1, hs b h1 (h5 ho).2⟩, fun ho => h.st _ _ (h6 ho), h.sz _ _ h7⟩
  | map kk l clock =>
    obtain ⟨b, es, h1, h2, h3⟩ := hr
    exact ⟨b, es, h.loc _ _ h1, h2, h3.ent.mono h.nl, h3.stamped⟩
  | ptab xs =>
    obtain ⟨l, clock, b, es, h0, h1, h2, h3⟩ := hr
    exact ⟨l, clock, b, es, h0, h.loc _ _ h1, h2, h3.ent.mono h.nl, h3.stamped⟩

/-- Where it lies. -/
theorem RowRel.lt {κ : Kap} {w : World} {n : Nat} {r : Row} (hr : RowRel κ w n r) {b : Nat} (hb : κ.loc n = some (some b)) : b < w.heap.size := by
  cases r with
  | cells c own tip =>
    rcases hr with ⟨h1, h2⟩ | ⟨b', zs, rest, e, fr, h1, h2, _⟩
    · rw [hb] at h1; cases h1
    · rw [hb] at h1; cases h1; exact (Array.getElem?_eq_some_iff.1 h2).1
  | map kk l clock =>
    obtain ⟨b', es, h1, h2, h3⟩ := hr
    rw [hb] at h1; cases h1; exact (Array.getElem?_eq_some_iff.1 h2).1
  | ptab xs =>
    obtain ⟨l, clock, b', es, h0, h1, h2, h3⟩ := hr
    rw [hb] at h1; cases h1; exact (Array.getElem?_eq_some_iff.1 h2).1
theorem MRel.lt {κ : Kap} {M : Mem} {w : World} (h : MRel κ M w) {b : Nat} (o : owned κ M b) : b < w.heap.size := by
  obtain ⟨n, r, h1, _, h3⟩ := o
  exact (h.row n r h1).lt h3

/-- A stable block is nobody's own. -/
theorem MRel.stable_not_owned {κ : Kap} {M : Mem} {w : World} (h : MRel κ M w) {b : Nat} {cs : List Value} (hs : κ.st b = some cs) : ¬ owned κ M b := by
  rintro ⟨n, r, h1, h2, h3⟩
  have hr := h.row n r h1
  cases r with
  | cells c own tip =>
    rcases hr with ⟨h4, _⟩ | ⟨b', zs, rest, e, fr, h4, h5, _, _, h6, _⟩
    · rw [h3] at h4; cases h4
    · rw [h3] at h4; cases h4
      rw [(h6 h2).2] at hs; cases hs
  | map kk l clock =>
    obtain ⟨b', es, h4, h5, _⟩ := hr
    rw [h3] at h4; cases h4
    obtain ⟨rest, e, fr, h6⟩ := h.stable b cs hs
    rw [h5] at h6; cases h6
  | ptab xs =>
    obtain ⟨l, clock, b', es, _, h4, h5, _⟩ := hr
    rw [h3] at h4; cases h4
    obtain ⟨rest, e, fr, h6⟩ := h.stable b cs hs
    rw [h5] at h6; cases h6

/-- A row of its block alone. -/
theorem RowRel.congr {κ : Kap} {w w' : World} {n : Nat} {r : Row} (hr : RowRel κ w n r) (h : ∀ b, κ.loc n = some (some b) → w'.heap[b]? = w.heap[b]?) : RowRel κ w' n r := by
  cases r with
  | cells c own tip =>
    rcases hr with ⟨h1, h2⟩ | ⟨b, zs, rest, e, fr, h1, h2, h3⟩
    · exact .inl ⟨h1, h2⟩
    · exact .inr ⟨b, zs, rest, e, fr, h1, by rw [h b h1]; exact h2, h3⟩
  | map kk l clock =>
    obtain ⟨b, es, h1, h2, h3⟩ := hr
    exact ⟨b, es, h1, by rw [h b h1]; exact h2, h3⟩
  | ptab xs =>
    obtain ⟨l, clock, b, es, h0, h1, h2, h3⟩ := hr
    exact ⟨l, clock, b, es, h0, h1, by rw [h b h1]; exact h2, h3⟩

theorem MRel.congr {κ : Kap} {M M' : Mem} {w : World} (h : MRel κ M w) (e : ∀ n, M' n = M n) : MRel κ M' w := by
  have : M' = M := funext e
  rw [this]; exact h
/-- Fewer rows. -/
theorem MRel.sub {κ : Kap} {M M' : Mem} {w : World} (h : MRel κ M w) (e : ∀ n r, M' n = some r → M n = some r) : MRel κ M' w :=
  ⟨h.szlt, h.stable, fun n r hn => h.row n r (e n r hn), fun n n' r r' b h1 h2 => h.inj n n' r r' b (e _ _ h1) (e _ _ h2)⟩
theorem owned.sub {κ : Kap} {M M' : Mem} (e : ∀ n r, M' n = some r → M n = some r) {b : Nat} (o : owned κ M' b) : owned κ M b := by
  obtain ⟨n, r, h1, h2, h3⟩ := o
  exact ⟨n, r, e n r h1, h2, h3⟩
/-- A world with the same blocks. -/
theorem MRel.heap {κ : Kap} {M : Mem} {w w' : World} (h : MRel κ M w) (e : w'.heap = w.heap) : MRel κ M w' :=
  ⟨fun b s hs => by rw [e]; exact h.szlt b s hs, fun b cs hs => by rw [e]; exact h.stable b cs hs, fun n r hn => (h.row n r hn).congr fun b _ => by rw [e], h.inj⟩
theorem Rel.heap {κ : Kap} {st : AS} {w w' : World} (h : Rel κ st w) (e : w'.heap = w.heap) : Rel κ st w' := ⟨h.fresh, h.mem.heap e⟩

/-! ### new rows -/
def Kap.at (κ : Kap) (n : Nat) (b : Option Nat) : Kap := ⟨fun m => if m = n then some b else κ.loc m, κ.st, κ.gh, κ.sz⟩
/-- A new block. -/
def Kap.blk (κ : Kap) (b s : Nat) : Kap := ⟨κ.loc, κ.st, κ.gh, fun b' => if b' = b then some s else κ.sz b'⟩
theorem Kap.blk_le {κ : Kap} {b s : Nat} (h : κ.sz b = none) : κ.le (κ.blk b s) :=
  ⟨fun _ _ h => h, fun _ _ h => h, rfl, fun b' x e => by
    simp only [Kap.blk]
    by_cases hm : b' = b
    · subst hm; rw [h] at e; cases e
    · rw [if_neg hm]; exact e⟩
theorem Kap.at_le {κ : Kap} {n : Nat} {b : Option Nat} (h : κ.loc n = none) : κ.le (κ.at n b) :=
  ⟨fun m x e => by
    simp only [Kap.at]
    by_cases hm : m = n
    · subst hm; rw [h] at e; cases e
    · rw [if_neg hm]; exact e, fun _ _ h => h, rfl, fun _ _ h => h⟩
theorem Kap.at_same {κ : Kap} {n : Nat} {b : Option Nat} : (κ.at n b).loc n = some b := by simp [Kap.at]
theorem Kap.at_ne {κ : Kap} {n m : Nat} {b : Option Nat} (h : m ≠ n) : (κ.at n b).loc m = κ.loc m := by simp [Kap.at, h]

/-- A block more. -/
theorem MRel.more {κ : Kap} {M : Mem} {w : World} (h : MRel κ M w) (o : Obj) (s : Nat) : κ.le (κ.blk w.heap.size s) ∧ MRel (κ.blk w.heap.size s) M (w.alloc o) ∧ Fr κ M w (κ.blk w.heap.size s) M (w.alloc o) := by
  have hsz : κ.sz w.heap.size = none := by
    cases e : κ.sz w.heap.size with
    | none => rfl
    | some s => exact absurd (h.szlt _ _ e) (Nat.lt_irrefl _)
  have hle := Kap.blk_le (s := s) hsz
  refine ⟨hle, ⟨fun b s' hs => ?_, fun b cs hs => ?_, fun m r' hr' => ?_, h.inj⟩, (fun _ _ h => .inl h), rfl, rfl, rfl, by simp, fun b hb _ => alloc_old hb, fun b hb ho => ho⟩
  · simp only [Kap.blk] at hs
    by_cases e : b = w.heap.size
    · subst e; simp
    · rw [if_neg e] at hs; have := h.szlt b s' hs; simp; omega
  · obtain ⟨rest, e, fr, hx⟩ := h.stable b cs hs
    exact ⟨rest, e, fr, by rw [alloc_old (Array.getElem?_eq_some_iff.1 hx).1]; exact hx⟩
  · exact ((h.row m r' hr').mono hle fun b _ hb => hb).congr fun b hb => alloc_old ((h.row m r' hr').lt hb)

/-- A row more, in a block that is no row's. -/
theorem MRel.name {κ : Kap} {M : Mem} {w : World} (h : MRel κ M w) {n b : Nat} (hn : κ.loc n = none) {r : Row} (hf : ∀ m r', M m = some r' → κ.loc m ≠ some (some b)) (hr : RowRel (κ.at n (some b)) w n r) :
    MRel (κ.at n (some b)) (M.set n (some r)) w := by
  have hle : κ.le (κ.at n (some b)) := Kap.at_le hn
  refine ⟨h.szlt, h.stable, fun m r' hm => ?_, fun m m' r1 r2 b' h1 h2 h3 h4 ho => ?_⟩
  · by_cases e : m = n
    · subst e; rw [Mem.set_same] at hm; cases hm; exact hr
    · rw [Mem.set_ne _ _ e] at hm; exact (h.row m r' hm).mono hle fun b _ hb => hb
  · by_cases e : m = n <;> by_cases e' : m' = n
    · rw [e, e']
    · subst e; rw [Mem.set_ne _ _ e'] at h2
      rw [Kap.at_same] at h3; cases h3
      rw [Kap.at_ne e'] at h4
      exact absurd h4 (hf m' r2 h2)
    · subst e'; rw [Mem.set_ne _ _ e] at h1
      rw [Kap.at_same] at h4; cases h4
      rw [Kap.at_ne e] at h3
      exact absurd h3 (hf m r1 h1)
    · rw [Mem.set_ne _ _ e] at h1; rw [Mem.set_ne _ _ e'] at h2
      rw [Kap.at_ne e] at h3; rw [Kap.at_ne e'] at h4
      exact h.inj m m' r1 r2 b' h1 h2 h3 h4 ho
theorem owned_at {κ : Kap} {M : Mem} {n b b' : Nat} {r : Row} (ho : owned (κ.at n (some b)) (M.set n (some r)) b') (hb : b' ≠ b) : owned κ M b' := by
  obtain ⟨m, r', h1, h2, h3⟩ := ho
  by_cases e : m = n
  · subst e; rw [Kap.at_same] at h3; cases h3; exact absurd rfl hb
  · rw [Mem.set_ne _ _ e] at h1; rw [Kap.at_ne e] at h3
    exact ⟨m, r', h1, h2, h3⟩
def Kap.new (κ : Kap) (n b s : Nat) : Kap := (κ.blk b s).at n (some b)
/-- A new block, a row's. -/
theorem MRel.new {κ : Kap} {M : Mem} {w : World} (h : MRel κ M w) {n : Nat} (hn : κ.loc n = none) {r : Row} {o : Obj} {s : Nat} (hr : RowRel (κ.new n w.heap.size s) (w.alloc o) n r) :
    κ.le (κ.new n w.heap.size s) ∧ MRel (κ.new n w.heap.size s) (M.set n (some r)) (w.alloc o) ∧ Fr κ M w (κ.new n w.heap.size s) (M.set n (some r)) (w.alloc o) := by
  obtain ⟨hle, h1, h2⟩ := h.more o s
  have hn' : (κ.blk w.heap.size s).loc n = none := hn
  refine ⟨Kap.le_trans hle (Kap.at_le hn'), h1.name hn' (fun m r' hm hb => ?_) hr, ⟨fun _ _ h => .inl h, rfl, rfl, rfl, by simp, fun b hb _ => alloc_old hb, fun b hb ho => owned_at ho (Nat.ne_of_lt hb)⟩⟩
  exact absurd ((h.row m r' hm).lt hb) (Nat.lt_irrefl _)

/-- A row that may be nil: no block. -/
theorem MRel.new0 {κ : Kap} {M : Mem} {w : World} (h : MRel κ M w) {n : Nat} (hn : κ.loc n = none) {c : List AV} (hc : CRel (κ.at n none) c []) (own tip : Bool) :
    MRel (κ.at n none) (M.set n (some (.cells c own tip))) w ∧ Fr κ M w (κ.at n none) (M.set n (some (.cells c own tip))) w := by
  have hle : κ.le (κ.at n none) := Kap.at_le hn
  refine ⟨⟨h.szlt, h.stable, fun m r' hm => ?_, fun m m' r1 r2 b h1 h2 h3 h4 ho => ?_⟩, (fun _ _ h => .inl h), rfl, rfl, rfl, Nat.le_refl _, fun b hb _ => rfl, fun b hb ho => ?_⟩
  · by_cases e : m = n
    · subst e; rw [Mem.set_same] at hm; cases hm; exact .inl ⟨Kap.at_same, hc⟩
    · rw [Mem.set_ne _ _ e] at hm; exact (h.row m r' hm).mono hle fun b _ hb => hb
  · by_cases e : m = n
    · subst e; rw [Kap.at_same] at h3; cases h3
    · by_cases e' : m' = n
      · subst e'; rw [Kap.at_same] at h4; cases h4
      · rw [Mem.set_ne _ _ e] at h1; rw [Mem.set_ne _ _ e'] at h2
        rw [Kap.at_ne e] at h3; rw [Kap.at_ne e'] at h4
        exact h.inj m m' r1 r2 b h1 h2 h3 h4 ho
  · obtain ⟨m, r', h1, h2, h3⟩ := ho
    by_cases e : m = n
    · subst e; rw [Kap.at_same] at h3; cases h3
    · rw [Mem.set_ne _ _ e] at h1; rw [Kap.at_ne e] at h3
      exact ⟨m, r', h1, h2, h3⟩

/-! ### a row of one's own is written -/
theorem MRel.put {κ : Kap} {M : Mem} {w : World} (h : MRel κ M w) {n b : Nat} {r r' : Row} (hn : M n = some r) (ho : r.own = true) (hb : κ.loc n = some (some b)) {o : Obj}
    (hr : RowRel κ (World.putBlk w b o) n r') : MRel κ (M.set n (some r')) (World.putBlk w b o) ∧ Fr κ M w κ (M.set n (some r')) (World.putBlk w b o) := by
  have hlt := (h.row n r hn).lt hb
  have howned : owned κ M b := ⟨n, r, hn, ho, hb⟩
  have hne : ∀ m r2, m ≠ n → M m = some r2 → κ.loc m ≠ some (some b) := fun m r2 hm h2 h3 => hm (h.inj n m r r2 b hn h2 hb h3 ho).symm
  refine ⟨⟨fun b' s hs => by rw [putBlk_size]; exact h.szlt b' s hs, fun b' cs hs => ?_, fun m r2 hm => ?_, fun m m' r1 r2 b' h1 h2 h3 h4 h5 => ?_⟩, (fun _ _ h => .inl h), rfl, rfl, rfl, by rw [putBlk_size]; exact Nat.le_refl _, fun b' hb' hno => ?_, fun b' hb' hown => ?_⟩
  · have : b' ≠ b := fun e => by subst e; exact h.stable_not_owned hs howned
    rw [putBlk_ne this]; exact h.stable b' cs hs
  · by_cases e : m = n
    · subst e; rw [Mem.set_same] at hm; cases hm; exact hr
    · rw [Mem.set_ne _ _ e] at hm
      refine (h.row m r2 hm).congr fun b' hb' => putBlk_ne fun e' => ?_
      subst e'; exact hne m r2 e hm hb'
  · by_cases e : m = n <;> by_cases e' : m' = n
    · rw [e, e']
    · subst e; rw [Mem.set_ne _ _ e'] at h2
      rw [hb] at h3; cases h3
      exact absurd h4 (hne m' r2 e' h2)
    · subst e'; rw [Mem.set_ne _ _ e] at h1
      rw [hb] at h4; cases h4
      exact absurd h3 (hne m r1 e h1)
    · rw [Mem.set_ne _ _ e] at h1; rw [Mem.set_ne _ _ e'] at h2
      exact h.inj m m' r1 r2 b' h1 h2 h3 h4 h5
  · exact putBlk_ne fun e => hno (by subst e; exact howned)
  · obtain ⟨m, r2, h1, h2, h3⟩ := hown
    by_cases e : m = n
    · subst e; rw [hb] at h3; cases h3; exact howned
    · rw [Mem.set_ne _ _ e] at h1; exact ⟨m, r2, h1, h2, h3⟩

/-! ### a row of one's own is given up: it stays -/
def Kap.stay (κ : Kap) (b : Nat) (cs : List Value) : Kap := ⟨κ.loc, fun b' => if b' = b then some cs else κ.st b', κ.gh, κ.sz⟩
theorem Kap.stay_le {κ : Kap} {b : Nat} {cs : List Value} (h : κ.st b = none) : κ.le (κ.stay b cs) :=
  ⟨fun _ _ h => h, fun b' x e => by
    simp only [Kap.stay]
    by_cases hm : b' = b
    · subst hm; rw [h] at e; cases e
    · rw [if_neg hm]; exact e, rfl, fun _ _ h => h⟩
theorem MRel.freeze {κ : Kap} {M : Mem} {w : World} (h : MRel κ M w) {n : Nat} {c : List AV} {tip : Bool} (hn : M n = some (.cells c true tip)) :
    ∃ κ', κ.le κ' ∧ κ'.loc = κ.loc ∧ MRel κ' (M.set n (some (.cells c false tip))) w ∧ Fr κ M w κ' (M.set n (some (.cells c false tip))) w := by
  rcases h.row n _ hn with ⟨h1, h2⟩ | ⟨b, zs, rest, e, fr, h1, h2, h3, h4, h5, h6, h7⟩
  · refine ⟨κ, Kap.le_refl κ, rfl, ⟨h.szlt, h.stable, fun m r2 hm => ?_, fun m m' r1 r2 b' a1 a2 a3 a4 a5 => ?_⟩, (fun _ _ h => .inl h), rfl, rfl, rfl, Nat.le_refl _, fun b' hb' hno => rfl, fun b' hb' hown => ?_⟩
    · by_cases e : m = n
      · subst e; rw [Mem.set_same] at hm; cases hm; exact .inl ⟨h1, h2⟩
      · rw [Mem.set_ne _ _ e] at hm; exact h.row m r2 hm
    · by_cases e : m = n
      · subst e; rw [h1] at a3; cases a3
      · by_cases e' : m' = n
        · subst e'; rw [h1] at a4; cases a4
        · rw [Mem.set_ne _ _ e] at a1; rw [Mem.set_ne _ _ e'] at a2
          exact h.inj m m' r1 r2 b' a1 a2 a3 a4 a5
    · obtain ⟨m, r2, a1, a2, a3⟩ := hown
      by_cases e : m = n
      · subst e; rw [h1] at a3; cases a3
      · rw [Mem.set_ne _ _ e] at a1; exact ⟨m, r2, a1, a2, a3⟩
  · have hle : κ.le (κ.stay b zs) := Kap.stay_le (h5 rfl).2
    have hne : ∀ m r2, m ≠ n → M m = some r2 → κ.loc m ≠ some (some b) := fun m r2 hm a2 a3 => hm (h.inj n m _ r2 b hn a2 h1 a3 rfl).symm
    refine ⟨κ.stay b zs, hle, rfl, ⟨h.szlt, fun b' cs hs => ?_, fun m r2 hm => ?_, fun m m' r1 r2 b' a1 a2 a3 a4 a5 => ?_⟩, (fun b' cs hs => ?_), rfl, rfl, rfl, Nat.le_refl _, fun b' hb' hno => rfl, fun b' hb' hown => ?_⟩
    · simp only [Kap.stay] at hs
      by_cases e : b' = b
      · subst e; rw [if_pos rfl] at hs; cases hs; exact ⟨rest, _, fr, h2⟩
      · rw [if_neg e] at hs; exact h.stable b' cs hs
    · by_cases e : m = n
      · subst e; rw [Mem.set_same] at hm; cases hm
        refine .inr ⟨b, zs, rest, _, fr, h1, h2, h3.mono hle, h4, (fun ho => by cases ho), fun _ => ?_, h7⟩
        simp [Kap.stay]
      · rw [Mem.set_ne _ _ e] at hm
        have hb' := hne m r2 e hm
        exact (h.row m r2 hm).mono hle fun b2 h2 hs2 => by
          simp only [Kap.stay]
          rw [if_neg (fun e3 => hb' (by rw [← e3]; exact h2))]; exact hs2
    · by_cases e : m = n <;> by_cases e' : m' = n
      · rw [e, e']
      · subst e; rw [Mem.set_same] at a1; cases a1; cases a5
      · subst e'; rw [Mem.set_ne _ _ e] at a1
        have : κ.loc m = some (some b') := a3
        have h4' : κ.loc m' = some (some b') := a4
        rw [h1] at h4'; cases h4'
        exact absurd this (hne m r1 e a1)
      · rw [Mem.set_ne _ _ e] at a1; rw [Mem.set_ne _ _ e'] at a2
        exact h.inj m m' r1 r2 b' a1 a2 a3 a4 a5
    · simp only [Kap.stay] at hs
      by_cases e : b' = b
      · subst e; exact .inr (.inr ⟨n, _, hn, rfl, h1⟩)
      · rw [if_neg e] at hs; exact .inl hs
    · obtain ⟨m, r2, a1, a2, a3⟩ := hown
      by_cases e : m = n
      · subst e; rw [Mem.set_same] at a1; cases a1; cases a2
      · rw [Mem.set_ne _ _ e] at a1; exact ⟨m, r2, a1, a2, a3⟩
end Go.Sv
