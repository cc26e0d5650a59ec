/- A second evaluator for the model's code: what runs do to a world's blocks. -/
import Derived.Test.YtojoepocppnccaaGreatSv0
import Derived.Laws.Sem
namespace Go.Sv
open Go.RowKit

/-! ### programs that touch no memory -/
def qrun (P : Program) {α : Type} : Sem α → Option α
  | .pure a => some a
  | .program k => qrun P (k P)
  | .mark _ k => qrun P k
  | _ => none
variable {P : Program}
theorem qrun_run {α : Type} (e : Sem α) {a : α} (h : qrun P e = some a) (w : World) : e.run P w = .ok a w := by
  induction e with
  | pure b => simp only [qrun, Option.some.injEq] at h; subst h; rfl
  | program k ih => exact ih P h
  | mark m k ih => exact ih h
  | _ => simp [qrun] at h
theorem qrun_bind {α β : Type} (e : Sem α) (f : α → Sem β) {x : β} (h : qrun P (e.bind f) = some x) : ∃ a, qrun P e = some a ∧ qrun P (f a) = some x := by
  induction e with
  | pure a => exact ⟨a, rfl, h⟩
  | program k ih => exact ih P h
  | mark m k ih => exact ih h
  | _ => simp [Sem.bind, qrun] at h

theorem run_bind {α β : Type} (e : Sem α) (f : α → Sem β) (w : World) :
    (e.bind f).run P w = match e.run P w with | .ok a w' => (f a).run P w' | .halt h w' => .halt h w' := by
  induction e generalizing w with
  | pure a => rfl
  | load m a k ih =>
    simp only [Sem.bind, Sem.run]
    cases w.cell? a with
    | some v => exact ih v w
    | none =>
      cases w.farLoad P a (m == .atomic) with
      | ok r => exact ih r.1 w
      | error h => rfl
  | store m a v k ih =>
    cases v <;> simp only [Sem.bind, Sem.run] <;> first
      | rfl
      | (split
         · split
           · rfl
           · exact ih _
         · split
           · exact ih _
           · rfl)
  | new o k ih => exact ih _ _
  | shape r k ih => exact ih _ _
  | freeze a n k ih => exact ih _
  | frozen a k ih => exact ih _ _
  | getObj r k ih =>
    simp only [Sem.bind, Sem.run]
    split <;> first | rfl | exact ih _ _
  | setObj r o k ih =>
    simp only [Sem.bind, Sem.run]
    split <;> first | rfl | exact ih _
  | choose q k ih =>
    simp only [Sem.bind, Sem.run]
    split <;> exact ih _ _
  | sys c k ih => exact ih _ _
  | program k ih => exact ih _ _
  | mark m k ih => exact ih _
  | halt h => rfl
theorem run_bind_ok {α β : Type} {e : Sem α} {f : α → Sem β} {w w' : World} {a : α} (h : e.run P w = .ok a w') : (e.bind f).run P w = (f a).run P w' := by
  rw [run_bind, h]
theorem run_q {α β : Type} {e : Sem α} {f : α → Sem β} {w : World} {a : α} (h : qrun P e = some a) : (e.bind f).run P w = (f a).run P w := run_bind_ok (qrun_run _ h w)

theorem addr_add (b o i : Nat) : (Addr.mk b o none).add i = ⟨b, o + i, none⟩ := by
  unfold Addr.add
  by_cases h : i = 0
  · subst h; rfl
  · rw [if_neg h]

/-! ### blocks -/
/-- Cells are put in the place of others. -/
def splice {α : Type} (l : List α) (o : Nat) (vs : List α) : List α := l.take o ++ (vs ++ l.drop (o + vs.length))
theorem splice_length {α : Type} (l : List α) (o : Nat) (vs : List α) (h : o + vs.length ≤ l.length) : (splice l o vs).length = l.length := by
  simp [splice]; omega

def World.putBlk (w : World) (b : Nat) (o : Obj) : World := { w with heap := w.heap.setIfInBounds b o }

theorem putBlk_same {w : World} {b : Nat} {o o' : Obj} (h : w.heap[b]? = some o') : (World.putBlk w b o).heap[b]? = some o := by
  have := (Array.getElem?_eq_some_iff.1 h).1
  simp [World.putBlk, this]
theorem putBlk_ne {w : World} {b b' : Nat} {o : Obj} (h : b' ≠ b) : (World.putBlk w b o).heap[b']? = w.heap[b']? := by
  simp [World.putBlk, Array.getElem?_setIfInBounds_ne (Ne.symm h)]
theorem putBlk_size {w : World} {b : Nat} {o : Obj} : (World.putBlk w b o).heap.size = w.heap.size := by simp [World.putBlk]
theorem putBlk_put {w : World} {b : Nat} {o o' : Obj} : World.putBlk (World.putBlk w b o) b o' = World.putBlk w b o' := by
  simp [World.putBlk, Array.setIfInBounds_setIfInBounds]
theorem putBlk_id {w : World} {b : Nat} {o : Obj} (h : w.heap[b]? = some o) : World.putBlk w b o = w := by
  obtain ⟨hlt, he⟩ := Array.getElem?_eq_some_iff.1 h
  simp only [World.putBlk]
  have : w.heap.setIfInBounds b o = w.heap := by
    apply Array.ext
    · simp
    · intro i h1 h2
      by_cases e : b = i
      · subst e; simp [he]
      · rw [Array.getElem_setIfInBounds_ne _ e]
  rw [this]
theorem alloc_old {w : World} {b : Nat} {o : Obj} (h : b < w.heap.size) : (w.alloc o).heap[b]? = w.heap[b]? := heap_alloc_old w o b h
theorem alloc_new {w : World} {o : Obj} : (w.alloc o).heap[w.heap.size]? = some o := heap_alloc_new w o
theorem alloc_size {w : World} {o : Obj} : (w.alloc o).heap.size = w.heap.size + 1 := by simp

theorem cell_blk {w : World} {b : Nat} {c : Array Value} {e : TypeId} {fr : Nat × Nat} (h : w.heap[b]? = some (.cells c e fr)) (o : Nat) : w.cell? ⟨b, o, none⟩ = c[o]? := by
  simp [World.cell?, h]
theorem frozen_blk {w : World} {b : Nat} {c : Array Value} {e : TypeId} (h : w.heap[b]? = some (.cells c e (0, 0))) (o : Nat) : w.frozen? ⟨b, o, none⟩ = false := by
  simp [World.frozen?, h]
theorem setCell_blk {w : World} {b : Nat} {c : Array Value} {e : TypeId} {fr : Nat × Nat} (h : w.heap[b]? = some (.cells c e fr)) (o : Nat) (v : Value) :
    w.setCell ⟨b, o, none⟩ v = World.putBlk w b (.cells (c.setIfInBounds o v) e fr) := by
  obtain ⟨hlt, he⟩ := Array.getElem?_eq_some_iff.1 h
  simp only [World.setCell, World.putBlk]
  congr 1
  apply Array.ext
  · simp
  · intro i h1 h2
    rw [Array.getElem_modify]
    by_cases e : b = i
    · subst e; simp [he]
    · rw [if_neg e, Array.getElem_setIfInBounds_ne _ e]

theorem run_loadCellsFrom {w : World} {b : Nat} {c : Array Value} {e : TypeId} {fr : Nat × Nat} (h : w.heap[b]? = some (.cells c e fr)) (off : Nat) : ∀ (n i : Nat) (acc : Array Value), off + i + n ≤ c.size →
    (loadCellsFrom ⟨b, off, none⟩ i n acc).run P w = .ok (acc ++ ((c.toList.drop (off + i)).take n).toArray) w
  | 0, i, acc, _ => by simp [loadCellsFrom, pure]
  | n + 1, i, acc, hs => by
    have ih := run_loadCellsFrom (w := w) h off n (i + 1) (acc.push (c[off + i]'(by omega))) (by omega)
    simp only [loadCellsFrom, load, bind, Sem.bind, Sem.run, addr_add, cell_blk h]
    rw [Array.getElem?_eq_getElem (by omega)]
    simp only []
    rw [ih]
    congr 1
    apply Array.ext'
    have hd : c.toList.drop (off + i) = c[off + i]'(by omega) :: c.toList.drop (off + i + 1) := by
      rw [List.drop_eq_getElem_cons (by simpa using (by omega : off + i < c.size))]; simp
    simp [hd, Nat.add_assoc]
theorem run_loadCells {w : World} {b : Nat} {c : Array Value} {e : TypeId} {fr : Nat × Nat} (h : w.heap[b]? = some (.cells c e fr)) (off n : Nat) (hs : off + n ≤ c.size) :
    (loadCells ⟨b, off, none⟩ n).run P w = .ok ((c.toList.drop off).take n).toArray w := by
  have := run_loadCellsFrom (P := P) h off n 0 #[] (by omega)
  simpa [loadCells] using this

theorem run_storeCells {b : Nat} {e : TypeId} (off : Nat) : ∀ (vs : List Value) (i : Nat) (c : Array Value) (w : World), w.heap[b]? = some (.cells c e (0, 0)) → off + i + vs.length ≤ c.size → (∀ v ∈ vs, oneV v = true) →
    (storeCells ⟨b, off, none⟩ vs i).run P w = .ok () (World.putBlk w b (.cells (splice c.toList (off + i) vs).toArray e (0, 0)))
  | [], i, c, w, h, hs, _ => by
    have : (splice c.toList (off + i) ([] : List Value)).toArray = c := by simp [splice]
    rw [this, putBlk_id h]; rfl
  | v :: vs, i, c, w, h, hs, hone => by
    simp only [List.length_cons] at hs
    have hv : oneV v = true := hone v (List.mem_cons_self ..)
    have h2 : (World.putBlk w b (.cells (c.setIfInBounds (off + i) v) e (0, 0))).heap[b]? = some (.cells (c.setIfInBounds (off + i) v) e (0, 0)) := putBlk_same h
    have ih := run_storeCells off vs (i + 1) (c.setIfInBounds (off + i) v) _ h2 (by simp; omega) (fun u hu => hone u (List.mem_cons_of_mem _ hu))
    have hc : w.cell? ⟨b, off + i, none⟩ = some (c[off + i]'(by omega)) := by rw [cell_blk h, Array.getElem?_eq_getElem (by omega)]
    have step : (storeCells ⟨b, off, none⟩ (v :: vs) i).run P w = (storeCells ⟨b, off, none⟩ vs (i + 1)).run P (w.setCell ⟨b, off + i, none⟩ v) := by
      simp only [storeCells, store, bind, Sem.bind, addr_add]
      cases v <;> first | (simp [oneV] at hv; done) | simp only [Sem.run, hc, frozen_blk h, Bool.false_eq_true, if_false]
    rw [step, setCell_blk h, ih, putBlk_put]
    congr 4
    have hlt : off + i < c.toList.length := by simp; omega
    simp only [splice, List.length_cons, Array.toList_setIfInBounds]
    rw [show off + (i + 1) = off + i + 1 from by omega, List.take_set, List.drop_set_of_lt (by omega), List.take_add_one, List.getElem?_eq_getElem hlt]
    rw [show off + i + 1 + vs.length = off + i + (vs.length + 1) from by omega]
    simp only [Option.toList_some]
    rw [List.set_append_right _ _ (by simp; omega)]
    have hmin : off + i - min (off + i) c.size = 0 := by have := hlt; simp at this; omega
    simp [hmin]
end Go.Sv
