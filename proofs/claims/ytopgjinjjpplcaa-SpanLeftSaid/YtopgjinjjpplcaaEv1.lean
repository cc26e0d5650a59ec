/- An evaluator for the model's code over an abstract memory, second part: memory steps. -/
import Derived.Test.YtopgjinjjpplcaaEv0
namespace Go.Ev
open Go.RowKit

/-! ### the relation of memories -/
structure MRel (ι : Inj) (B : Nat) (m : List (Nat × Row)) (w : World) : Prop where
  low : B ≤ w.heap.size
  row : ∀ n r, find m n = some r → ∃ l, ι n = some l ∧ l.blk < w.heap.size ∧
    (∀ (i : Nat) (x : Value), r.c[i]? = some x → ∃ y, w.cell? ⟨l.blk, l.shift + i, none⟩ = some y ∧ VRel ι x y) ∧
    (r.own = true → B ≤ l.blk ∧ ∀ i, i < r.c.length → w.frozen? ⟨l.blk, l.shift + i, none⟩ = false)
  inj : ∀ n n' r r' l l', find m n = some r → find m n' = some r' → n ≠ n' → ι n = some l → ι n' = some l' → r.own = true → l.blk ≠ l'.blk
structure Rel (ι : Inj) (B : Nat) (st : AS) (w : World) : Prop where
  fresh : ∀ n, st.next ≤ n → ι n = none
  mem : MRel ι B st.mem w

theorem MRel.congr {ι : Inj} {B : Nat} {m m' : List (Nat × Row)} {w : World} (h : MRel ι B m w) (e : ∀ n, find m n = find m' n) : MRel ι B m' w :=
  ⟨h.low, fun n r hn => h.row n r (by rw [e]; exact hn), fun n n' r r' l l' h1 h2 => h.inj n n' r r' l l' (by rw [e]; exact h1) (by rw [e]; exact h2)⟩

/-! ### worlds -/
theorem cell_setCell_same {w : World} {b o : Nat} {v u : Value} (h : w.cell? ⟨b, o, none⟩ = some u) : (w.setCell ⟨b, o, none⟩ v).cell? ⟨b, o, none⟩ = some v := by
  unfold World.cell? at h ⊢
  unfold World.setCell
  simp only [Array.getElem?_modify] at h ⊢
  cases hb : w.heap[b]? with
  | none => rw [hb] at h; simp at h
  | some ob =>
    rw [hb] at h
    cases ob <;> simp at h ⊢
    rename_i c e f
    obtain ⟨hlt, _⟩ := Array.getElem?_eq_some_iff.1 h
    simp [hlt]

theorem cell_setCell_ne {w : World} {b o b' o' : Nat} {v : Value} (h : b ≠ b' ∨ o ≠ o') : (w.setCell ⟨b, o, none⟩ v).cell? ⟨b', o', none⟩ = w.cell? ⟨b', o', none⟩ := by
  unfold World.cell? World.setCell
  simp only [Array.getElem?_modify]
  by_cases hb : b = b'
  · subst hb
    have ho : o ≠ o' := h.resolve_left (fun h => h rfl)
    cases hb : w.heap[b]? with
    | none => simp
    | some ob =>
      cases ob <;> simp
      rw [Array.getElem?_setIfInBounds_ne ho]
  · simp [hb]

theorem frozen_setCell {w : World} {b o b' o' : Nat} {v : Value} : (w.setCell ⟨b, o, none⟩ v).frozen? ⟨b', o', none⟩ = w.frozen? ⟨b', o', none⟩ := by
  unfold World.frozen? World.setCell
  simp only [Array.getElem?_modify]
  by_cases hb : b = b'
  · subst hb
    cases hb : w.heap[b]? with
    | none => simp
    | some ob => cases ob <;> simp
  · simp [hb]

theorem size_setCell {w : World} {a : Addr} {v : Value} : (w.setCell a v).heap.size = w.heap.size := by
  simp [World.setCell]

theorem cell_push {w : World} {o : Obj} {b i : Nat} (h : b < w.heap.size) : World.cell? { w with heap := w.heap.push o } ⟨b, i, none⟩ = w.cell? ⟨b, i, none⟩ := by
  unfold World.cell?
  simp only [Array.getElem?_push]
  rw [if_neg (by omega)]
theorem frozen_push {w : World} {o : Obj} {b i : Nat} (h : b < w.heap.size) : World.frozen? { w with heap := w.heap.push o } ⟨b, i, none⟩ = w.frozen? ⟨b, i, none⟩ := by
  unfold World.frozen?
  simp only [Array.getElem?_push]
  rw [if_neg (by omega)]

/-! ### steps of the relation -/
theorem MRel.below {ι : Inj} {B : Nat} {m : List (Nat × Row)} {w w' : World} (h : MRel ι B m w) (hb : Below w.heap.size w w') : MRel ι B m w' := by
  refine ⟨Nat.le_trans h.low hb.size, fun n r hn => ?_, h.inj⟩
  obtain ⟨l, hl, hlt, h1, h2⟩ := h.row n r hn
  refine ⟨l, hl, Nat.lt_of_lt_of_le hlt hb.size, fun i x hx => ?_, fun ho => ⟨(h2 ho).1, fun i hi => ?_⟩⟩
  · obtain ⟨y, hy, hv⟩ := h1 i x hx
    exact ⟨y, by rw [hb.cell (p := ⟨l.blk, l.shift + i, none⟩) hlt]; exact hy, hv⟩
  · rw [hb.frozen (p := ⟨l.blk, l.shift + i, none⟩) hlt]; exact (h2 ho).2 i hi
theorem Rel.below {ι : Inj} {B : Nat} {st : AS} {w w' : World} (h : Rel ι B st w) (hb : Below w.heap.size w w') : Rel ι B st w' := ⟨h.fresh, h.mem.below hb⟩

theorem MRel.drew {ι : Inj} {B : Nat} {m : List (Nat × Row)} {w : World} (h : MRel ι B m w) : MRel ι B m { w with drawn := w.drawn + 1 } :=
  ⟨h.low, h.row, h.inj⟩
theorem Rel.drew {ι : Inj} {B : Nat} {st : AS} {w : World} (h : Rel ι B st w) : Rel ι B st { w with drawn := w.drawn + 1 } :=
  ⟨h.fresh, h.mem.drew⟩

theorem below_drew {B : Nat} {a w : World} (h : Below B a w) : Below B a { w with drawn := w.drawn + 1 } := ⟨h.os, h.tape, h.output, h.size, h.block⟩

/-- A new row. -/
def ext (ι : Inj) (n : Nat) (l : Loc) : Inj := fun m => if m = n then some l else ι m
theorem ext_le {ι : Inj} {n : Nat} {l : Loc} (h : ι n = none) : Inj.le ι (ext ι n l) := fun m k hk => by
  unfold ext
  by_cases e : m = n
  · subst e; rw [h] at hk; cases hk
  · rw [if_neg e]; exact hk
theorem ext_same {ι : Inj} {n : Nat} {l : Loc} : ext ι n l n = some l := by simp [ext]

def AS.push (st : AS) (c : List Value) (exact : Bool) : AS := ⟨st.next + 1, (st.next, ⟨c, true, exact⟩) :: st.mem⟩

theorem MRel.push {ι : Inj} {B : Nat} {m : List (Nat × Row)} {w : World} (h : MRel ι B m w) {n0 : Nat} (hfr : ι n0 = none) {c : List Value} {c' : Array Value} {t : TypeId} (hc : LRel ι c c'.toList) (exact : Bool) :
    MRel (ext ι n0 ⟨w.heap.size, 0, exact, c'.size⟩) B ((n0, ⟨c, true, exact⟩) :: m) { w with heap := w.heap.push (.cells c' t) } := by
  have hle : Inj.le ι (ext ι n0 ⟨w.heap.size, 0, exact, c'.size⟩) := ext_le hfr
  have hother : ∀ n r, n ≠ n0 → find ((n0, (⟨c, true, exact⟩ : Row)) :: m) n = some r → find m n = some r := fun n r hne hf => by
    have : Nat.beq n0 n = false := beqF (Ne.symm hne)
    simpa [find, this] using hf
  have hsame : ∀ r, find ((n0, (⟨c, true, exact⟩ : Row)) :: m) n0 = some r → r = ⟨c, true, exact⟩ := fun r hf => by
    simp [find] at hf; exact hf.symm
  refine ⟨by simp; have := h.low; omega, fun n r hn => ?_, ?_⟩
  · by_cases e : n = n0
    · subst e
      obtain rfl := hsame r hn
      refine ⟨_, ext_same, by simp, fun i x hx => ?_, fun _ => ⟨h.low, fun i hi => ?_⟩⟩
      · obtain ⟨y, hy, hv⟩ := hc.get hx
        refine ⟨y, ?_, hv.mono hle⟩
        unfold World.cell?
        simp only [Array.getElem?_push, if_true]
        simpa using hy
      · unfold World.frozen?
        simp
    · obtain ⟨l, hl, hlt, h1, h2⟩ := h.row n r (hother n r e hn)
      refine ⟨l, hle _ _ hl, by simp; omega, fun i x hx => ?_, fun ho => ⟨(h2 ho).1, fun i hi => ?_⟩⟩
      · obtain ⟨y, hy, hv⟩ := h1 i x hx
        exact ⟨y, by rw [cell_push hlt]; exact hy, hv.mono hle⟩
      · rw [frozen_push hlt]; exact (h2 ho).2 i hi
  · intro n n' r r' l l' hn hn' hne hl hl' ho
    by_cases e : n = n0
    · subst e
      have e' : n' ≠ n := fun h => hne h.symm
      obtain ⟨k, hk, hlt, _⟩ := h.row n' r' (hother n' r' e' hn')
      rw [ext_same] at hl
      obtain rfl := Option.some.inj hl
      have : k = l' := by have := hle _ _ hk; rw [hl'] at this; exact (Option.some.inj this).symm
      subst this
      intro hb
      simp at hb
      omega
    · by_cases e' : n' = n0
      · subst e'
        obtain ⟨k, hk, hlt, _⟩ := h.row n r (hother n r e hn)
        rw [ext_same] at hl'
        obtain rfl := Option.some.inj hl'
        have : k = l := by have := hle _ _ hk; rw [hl] at this; exact (Option.some.inj this).symm
        subst this
        intro hb
        simp at hb
        omega
      · obtain ⟨k, hk, _⟩ := h.row n r (hother n r e hn)
        obtain ⟨k', hk', _⟩ := h.row n' r' (hother n' r' e' hn')
        have e1 : k = l := by have := hle _ _ hk; rw [hl] at this; exact (Option.some.inj this).symm
        have e2 : k' = l' := by have := hle _ _ hk'; rw [hl'] at this; exact (Option.some.inj this).symm
        subst e1; subst e2
        exact h.inj n n' r r' _ _ (hother n r e hn) (hother n' r' e' hn') hne hk hk' ho

theorem Rel.push {ι : Inj} {B : Nat} {st : AS} {w : World} (h : Rel ι B st w) {c : List Value} {c' : Array Value} {t : TypeId} (hc : LRel ι c c'.toList) (exact : Bool) :
    Rel (ext ι st.next ⟨w.heap.size, 0, exact, c'.size⟩) B (st.push c exact) { w with heap := w.heap.push (.cells c' t) } := by
  refine ⟨fun n hn => ?_, h.mem.push (h.fresh _ (Nat.le_refl _)) hc exact⟩
  have hn' : st.next + 1 ≤ n := hn
  unfold ext
  rw [if_neg (by omega)]
  exact h.fresh n (by omega)

/-- One cell of a row of one's own is written. -/
theorem MRel.set {ι : Inj} {B : Nat} {m : List (Nat × Row)} {w : World} (h : MRel ι B m w) {n : Nat} {r : Row} (hn : find m n = some r) (ho : r.own = true) {off : Nat} (hoff : off < r.c.length)
    {l : Loc} (hl : ι n = some l) {x y : Value} (hv : VRel ι x y) :
    MRel ι B (upd m n { r with c := r.c.set off x }) (w.setCell ⟨l.blk, l.shift + off, none⟩ y) := by
  have hf : ∀ n' r', find (upd m n { r with c := r.c.set off x }) n' = some r' → (n' = n ∧ r' = { r with c := r.c.set off x }) ∨ (n' ≠ n ∧ find m n' = some r') := fun n' r' hr => by
    rw [find_upd _ _ _ _ hn] at hr
    by_cases e : n' = n
    · rw [if_pos e] at hr; exact .inl ⟨e, (Option.some.inj hr).symm⟩
    · rw [if_neg e] at hr; exact .inr ⟨e, hr⟩
  have horig : ∀ n' r', find (upd m n { r with c := r.c.set off x }) n' = some r' → ∃ r0, find m n' = some r0 ∧ r0.own = r'.own := fun n' r' hr => by
    rcases hf n' r' hr with ⟨rfl, rfl⟩ | ⟨_, h2⟩
    · exact ⟨r, hn, rfl⟩
    · exact ⟨r', h2, rfl⟩
  refine ⟨by rw [size_setCell]; exact h.low, fun n' r' hr => ?_, ?_⟩
  · rcases hf n' r' hr with ⟨rfl, rfl⟩ | ⟨hne, h2⟩
    · obtain ⟨k, hk, hlt, h1, h3⟩ := h.row n' r hn
      have : k = l := by rw [hl] at hk; exact (Option.some.inj hk).symm
      subst this
      refine ⟨k, hk, by rw [size_setCell]; exact hlt, fun i z hz => ?_, fun _ => ⟨(h3 ho).1, fun i hi => ?_⟩⟩
      · by_cases e : i = off
        · subst e
          simp [hoff] at hz
          subst hz
          obtain ⟨y0, hy0, _⟩ := h1 i (r.c[i]) (by simp [hoff])
          exact ⟨y, cell_setCell_same hy0, hv⟩
        · have hz' : r.c[i]? = some z := by simpa [List.getElem?_set_ne (Ne.symm e)] using hz
          obtain ⟨y0, hy0, hv0⟩ := h1 i z hz'
          exact ⟨y0, by rw [cell_setCell_ne (.inr (by omega))]; exact hy0, hv0⟩
      · rw [frozen_setCell]
        exact (h3 ho).2 i (by simpa using hi)
    · obtain ⟨k, hk, hlt, h1, h3⟩ := h.row n' r' h2
      have hb : l.blk ≠ k.blk := h.inj n n' r r' l k hn h2 (Ne.symm hne) hl hk ho
      refine ⟨k, hk, by rw [size_setCell]; exact hlt, fun i z hz => ?_, fun ho' => ⟨(h3 ho').1, fun i hi => ?_⟩⟩
      · obtain ⟨y0, hy0, hv0⟩ := h1 i z hz
        exact ⟨y0, by rw [cell_setCell_ne (.inl hb)]; exact hy0, hv0⟩
      · rw [frozen_setCell]; exact (h3 ho').2 i hi
  · intro a a' ra ra' la la' ha ha' hne hla hla' hoa
    obtain ⟨r0, hr0, e0⟩ := horig a ra ha
    obtain ⟨r1, hr1, _⟩ := horig a' ra' ha'
    exact h.inj a a' r0 r1 la la' hr0 hr1 hne hla hla' (by rw [e0]; exact hoa)

/-! ### programs that touch no memory -/
def qrun (P : Program) {α : Type} : Sem α → Option α
  | .pure a => some a
  | .program k => qrun P (k P)
  | .mark _ k => qrun P k
  | _ => none

theorem qrun_run {P : Program} {α : Type} (e : Sem α) {a : α} (h : qrun P e = some a) (w : World) : e.run P w = .ok a w := by
  induction e with
  | pure b => simp only [qrun, Option.some.injEq] at h; subst h; rfl
  | program k ih => exact ih P h
  | mark m k ih => exact ih h
  | _ => simp [qrun] at h

theorem run_bind {P : Program} {α β : Type} (e : Sem α) (f : α → Sem β) (w : World) :
    (e.bind f).run P w = match e.run P w with | .ok a w' => (f a).run P w' | .halt h w' => .halt h w' := by
  induction e generalizing w with
  | pure a => rfl
  | load m a k ih =>
    simp only [Sem.bind, Sem.run]
    cases w.cell? a with
    | some v => exact ih v w
    | none =>
      cases w.farLoad P a (m == .atomic) with
      | ok r => exact ih r.1 w
      | error h => rfl
  | store m a v k ih =>
    cases v <;> simp only [Sem.bind, Sem.run] <;> first
      | rfl
      | (split
         · split
           · rfl
           · exact ih _
         · split
           · exact ih _
           · rfl)
  | new o k ih => exact ih _ _
  | shape r k ih => exact ih _ _
  | freeze a n k ih => exact ih _
  | frozen a k ih => exact ih _ _
  | getObj r k ih =>
    simp only [Sem.bind, Sem.run]
    split <;> first | rfl | exact ih _ _
  | setObj r o k ih =>
    simp only [Sem.bind, Sem.run]
    split <;> first | rfl | exact ih _
  | choose q k ih =>
    simp only [Sem.bind, Sem.run]
    split <;> exact ih _ _
  | sys c k ih => exact ih _ _
  | program k ih => exact ih _ _
  | mark m k ih => exact ih _
  | halt h => rfl

theorem run_bind_ok {P : Program} {α β : Type} {e : Sem α} {f : α → Sem β} {w w' : World} {a : α} (h : e.run P w = .ok a w') : (e.bind f).run P w = (f a).run P w' := by
  rw [run_bind, h]

/-! ### many cells -/
def one : Value → Bool
  | .agg _ | .tuple _ => false
  | _ => true

theorem addr_add (b o i : Nat) : (Addr.mk b o none).add i = ⟨b, o + i, none⟩ := by
  unfold Addr.add
  by_cases h : i = 0
  · subst h; rfl
  · rw [if_neg h]

/-- The cells from 'off' on are those. -/
def holds (w : World) (b off : Nat) (cs : List Value) : Prop := ∀ (i : Nat) (x : Value), cs[i]? = some x → w.cell? ⟨b, off + i, none⟩ = some x

theorem run_loadCellsFrom {P : Program} {w : World} (b off : Nat) : ∀ (cs : List Value) (i : Nat) (acc : Array Value), (∀ (j : Nat) (x : Value), cs[j]? = some x → w.cell? ⟨b, off + (i + j), none⟩ = some x) →
    (loadCellsFrom ⟨b, off, none⟩ i cs.length acc).run P w = .ok (acc ++ cs.toArray) w
  | [], i, acc, _ => by simp [loadCellsFrom, pure]
  | c :: cs, i, acc, h => by
    have h0 := h 0 c rfl
    have ih := run_loadCellsFrom (P := P) (w := w) b off cs (i + 1) (acc.push c) (fun j x hx => by have := h (j + 1) x (by simpa using hx); rw [show off + (i + 1 + j) = off + (i + (j + 1)) from by omega]; exact this)
    simp only [List.length_cons, loadCellsFrom, load, bind, Sem.bind, Sem.run, addr_add]
    rw [show off + i = off + (i + 0) from rfl, h0]
    simp only []
    rw [ih]
    simp

theorem run_loadCells {P : Program} {w : World} (b off : Nat) (cs : List Value) (h : holds w b off cs) :
    (loadCells ⟨b, off, none⟩ cs.length).run P w = .ok cs.toArray w := by
  have := run_loadCellsFrom (P := P) (w := w) b off cs 0 #[] (fun j x hx => by rw [Nat.zero_add]; exact h j x hx)
  simpa [loadCells] using this

/-- Cell by cell, a row of one's own is written. -/
theorem run_storeCells {P : Program} {ι : Inj} {B : Nat} {n : Nat} {l : Loc} (hl : ι n = some l) (off : Nat) : ∀ (vs us : List Value) (i : Nat) (m : List (Nat × Row)) (w : World) (r : Row),
    MRel ι B m w → find m n = some r → r.own = true → off + i + vs.length ≤ r.c.length → LRel ι vs us → (∀ v ∈ us, one v = true) →
    ∃ w', (storeCells ⟨l.blk, l.shift + off, none⟩ us i).run P w = .ok () w' ∧ MRel ι B (upd m n { r with c := setAll r.c (off + i) vs }) w' ∧ Below B w w'
  | [], us, i, m, w, r, hR, hn, ho, hlen, hr, _ => by
    have : us = [] := by have := hr.1; cases us <;> simp_all
    subst this
    refine ⟨w, rfl, ?_, Below.refl _ _⟩
    have : upd m n { r with c := setAll r.c (off + i) [] } = m := by
      simp only [setAll]
      clear hR hlen hr
      induction m with
      | nil => rfl
      | cons p m ih =>
        obtain ⟨k, o⟩ := p
        simp only [find] at hn
        simp only [upd]
        cases e : Nat.beq k n
        · simp only [e, cond_false] at hn ⊢; rw [ih hn]
        · simp only [e, cond_true, Option.some.injEq] at hn ⊢; subst hn; rfl
    rw [this]
    exact hR
  | v :: vs, us, i, m, w, r, hR, hn, ho, hlen, hr, hone => by
    obtain ⟨u, us', rfl, hvu, hrest⟩ := hr.uncons
    simp only [List.length_cons] at hlen
    have hoff : off + i < r.c.length := by omega
    obtain ⟨k, hk, hlt, h1, h3⟩ := hR.row n r hn
    have : k = l := by rw [hl] at hk; exact (Option.some.inj hk).symm
    subst this
    obtain ⟨y0, hy0, _⟩ := h1 (off + i) (r.c[off + i]) (by simp [hoff])
    have hfr := (h3 ho).2 (off + i) hoff
    have hR' := hR.set hn ho hoff hl hvu
    have hn' : find (upd m n { r with c := r.c.set (off + i) v }) n = some { r with c := r.c.set (off + i) v } := by rw [find_upd _ _ _ _ hn]; simp
    obtain ⟨w', hrun, hR2, hb⟩ := run_storeCells hl off vs us' (i + 1) (upd m n { r with c := r.c.set (off + i) v }) (w.setCell ⟨k.blk, k.shift + (off + i), none⟩ u) { r with c := r.c.set (off + i) v } hR' hn' ho
      (by simp; omega) hrest (fun v hv => hone v (List.mem_cons_of_mem _ hv))
    refine ⟨w', ?_, ?_, Below.trans ((Below.refl _ _).setCell (p := ⟨k.blk, k.shift + (off + i), none⟩) (h3 ho).1 u) hb⟩
    · have hu : one u = true := hone u (List.mem_cons_self ..)
      simp only [storeCells, store, bind, Sem.bind, addr_add]
      rw [show k.shift + off + i = k.shift + (off + i) from by omega]
      cases u <;> first | (simp [one] at hu; done) | (simp only [Sem.run, hy0, hfr]; exact hrun)
    · have e : upd (upd m n { r with c := r.c.set (off + i) v }) n { c := setAll (r.c.set (off + i) v) (off + (i + 1)) vs, own := r.own, exact := r.exact } = upd m n { r with c := setAll r.c (off + i) (v :: vs) } := by
        simp only [setAll]
        rw [show off + i + 1 = off + (i + 1) from by omega]
        generalize (⟨setAll (r.c.set (off + i) v) (off + (i + 1)) vs, r.own, r.exact⟩ : Row) = y
        generalize (⟨r.c.set (off + i) v, r.own, r.exact⟩ : Row) = x
        clear hR hn hR' hn' hrun hR2 hb
        induction m with
        | nil => rfl
        | cons p m ih =>
          obtain ⟨k, o⟩ := p
          simp only [upd]
          cases e : Nat.beq k n <;> simp [upd, e, ih]
      rw [e] at hR2
      exact hR2
end Go.Ev
