/- A second evaluator for the model's code: ranges over maps: plain laws, and an iterator's block. -/
import Derived.Test.YtojoepocppnccaaGreatSvR
import Derived.Maps.RangeRun
namespace Go.Sv
noncomputable section
open Go.RowKit
variable {P : Program}

theorem turned_congr {f : Key → AV → Option AV} {s s' : List Nat} (h : ∀ b, b ∈ s ↔ b ∈ s') : ∀ l : Ents3, turned f s l = turned f s' l
  | [] => rfl
  | (k, b, v) :: l => by simp only [turned, h b, turned_congr h l]
def unseen (seen : List Nat) (l : Ents3) : Nat := (l.filter fun x => decide (x.2.1 ∉ seen)).length
theorem filter_le {α : Type} {p q : α → Bool} (h : ∀ x, p x = true → q x = true) : ∀ l : List α, (l.filter p).length ≤ (l.filter q).length
  | [] => Nat.le_refl _
  | x :: l => by
    have ih := filter_le h l
    simp only [List.filter_cons]
    cases hp : p x with
    | true => rw [h x hp]; simp; exact ih
    | false =>
      cases q x with
      | true => simp; omega
      | false => simpa using ih
theorem unseen_step {seen : List Nat} {k : Key} {b : Nat} {v : AV} : ∀ {l : Ents3}, (k, b, v) ∈ l → b ∉ seen → unseen (b :: seen) l < unseen seen l
  | [], h, _ => by cases h
  | (k0, b0, v0) :: l, h, hb => by
    unfold unseen
    have hle := filter_le (p := fun x : Key × Nat × AV => decide (x.2.1 ∉ b :: seen)) (q := fun x => decide (x.2.1 ∉ seen)) (fun x hx => by simp at hx ⊢; exact hx.2) l
    simp only [List.filter_cons]
    rcases List.mem_cons.1 h with e | h
    · simp only [Prod.mk.injEq] at e
      obtain ⟨rfl, rfl, rfl⟩ := e
      simp [hb]
      simp at hle
      omega
    · have ih := unseen_step h hb
      unfold unseen at ih
      by_cases hb0 : b0 ∈ seen
      · simp [hb0]
        simpa using ih
      · by_cases e : b0 = b
        · subst e
          simp [hb0]
          simp at hle
          omega
        · simp [hb0, e]
          simpa using ih
theorem turned_all {f : Key → AV → Option AV} {s s' : List Nat} : ∀ {l : Ents3}, (∀ x ∈ l, x.2.1 ∈ s) → (∀ x ∈ l, x.2.1 ∈ s') → turned f s l = turned f s' l
  | [], _, _ => rfl
  | (k, b, v) :: l, h, h' => by
    have ih := turned_all (f := f) (l := l) (fun x hx => h x (List.mem_cons_of_mem _ hx)) (fun x hx => h' x (List.mem_cons_of_mem _ hx))
    simp only [turned, h _ (List.mem_cons_self ..), h' _ (List.mem_cons_self ..), if_true, ih]
theorem turned_mem {f : Key → AV → Option AV} {seen : List Nat} {k : Key} {b : Nat} {v : AV} : ∀ {l : Ents3}, (k, b, v) ∈ l → b ∉ seen → (k, b, v) ∈ turned f seen l
  | [], h, _ => by cases h
  | (k0, b0, v0) :: l, h, hb => by
    simp only [turned]
    rcases List.mem_cons.1 h with e | h
    · simp only [Prod.mk.injEq] at e
      obtain ⟨rfl, rfl, rfl⟩ := e
      rw [if_neg hb]; exact List.mem_cons_self ..
    · have ih := turned_mem (f := f) h hb
      split
      · split
        · exact List.mem_cons_of_mem _ ih
        · exact ih
      · exact List.mem_cons_of_mem _ ih
theorem stamps_eq : ∀ {l : Ents3}, StampsApart l → ∀ {x y : Key × Nat × AV}, x ∈ l → y ∈ l → x.2.1 = y.2.1 → x = y
  | [], _, x, y, h, _, _ => by cases h
  | z :: l, hs, x, y, hx, hy, e => by
    unfold StampsApart at hs
    rw [List.pairwise_cons] at hs
    rcases List.mem_cons.1 hx with ex | hx
    · rcases List.mem_cons.1 hy with ey | hy
      · rw [ex, ey]
      · rw [ex] at e; exact absurd e (hs.1 y hy)
    · rcases List.mem_cons.1 hy with ey | hy
      · rw [ey] at e; exact absurd e.symm (hs.1 x hx)
      · exact stamps_eq hs.2 hx hy e
/-- Entries and what they are in a world. -/
theorem Ents.of_mem {κ : Kap} {kk : Option IntKind} : ∀ {l : Ents3} {es : List MapEntry}, Ents κ kk l es → ∀ e ∈ es, ∃ k b v, (k, b, v) ∈ l ∧ KeyV kk k e.key ∧ e.born = b ∧ VRel κ.nl v e.val
  | [], [], _, e, he => by cases he
  | (k, b, v) :: l, x :: es, h, e, he => by
    rcases List.mem_cons.1 he with rfl | he
    · exact ⟨k, b, v, List.mem_cons_self .., h.1.1.1, h.1.1.2, h.1.2⟩
    · obtain ⟨k', b', v', h1, h2⟩ := Ents.of_mem h.2 e he
      exact ⟨k', b', v', List.mem_cons_of_mem _ h1, h2⟩
  | [], _ :: _, h, _, _ => h.elim
  | _ :: _, [], h, _, _ => h.elim
theorem Ents.to_mem {κ : Kap} {kk : Option IntKind} : ∀ {l : Ents3} {es : List MapEntry}, Ents κ kk l es → ∀ {k b v}, (k, b, v) ∈ l → ∃ e ∈ es, e.born = b
  | [], [], _, _, _, _, he => by cases he
  | (k, b, v) :: l, x :: es, h, _, _, _, he => by
    rcases List.mem_cons.1 he with e | he
    · simp only [Prod.mk.injEq] at e
      obtain ⟨rfl, rfl, rfl⟩ := e
      exact ⟨x, List.mem_cons_self .., h.1.1.2⟩
    · obtain ⟨e, h1, h2⟩ := Ents.to_mem h.2 he
      exact ⟨e, List.mem_cons_of_mem _ h1, h2⟩
  | [], _ :: _, h, _, _, _, _ => h.elim
  | _ :: _, [], h, _, _, _, _ => h.elim
/-- An iterator's block is no row's. -/
theorem MRel.notIter {κ : Kap} {M : Mem} {w : World} (h : MRel κ M w) {r s c : Nat} {m : Option Nat} {seen : Array Nat} (hr : w.heap[r]? = some (.mapIter m s seen c)) : ∀ n row, M n = some row → κ.loc n ≠ some (some r) := fun n row hn hb => by
  have hrow := h.row n row hn
  cases row with
  | cells cc own tip =>
    rcases hrow with ⟨h1, _⟩ | ⟨b, zs, rest, e, fr, h1, h2, _⟩
    · rw [hb] at h1; cases h1
    · rw [hb] at h1; cases h1; rw [hr] at h2; cases h2
  | map kk l clock =>
    obtain ⟨b, es, h1, h2, _⟩ := hrow
    rw [hb] at h1; cases h1; rw [hr] at h2; cases h2
  | ptab xs =>
    obtain ⟨_, _, b, es, _, h1, h2, _⟩ := hrow
    rw [hb] at h1; cases h1; rw [hr] at h2; cases h2
theorem MRel.iter {κ : Kap} {M : Mem} {w w' : World} (h : MRel κ M w) {r s c : Nat} {m : Option Nat} {seen : Array Nat} (hr : w.heap[r]? = some (.mapIter m s seen c)) (hw : ∀ b, b ≠ r → w'.heap[b]? = w.heap[b]?) (hsz : w'.heap.size = w.heap.size) : MRel κ M w' := by
  refine ⟨fun b s hs => by rw [hsz]; exact h.szlt b s hs, fun b cs hs => ?_, fun n row hn => (h.row n row hn).congr fun b hb => hw b fun e => by subst e; exact h.notIter hr n row hn hb, h.inj⟩
  obtain ⟨rest, e, fr, hx⟩ := h.stable b cs hs
  refine ⟨rest, e, fr, ?_⟩
  rw [hw b fun e' => by subst e'; rw [hr] at hx; cases hx]; exact hx
/-- What lies in blocks of the run's own may turn. -/
theorem Fr.off {κ κ' : Kap} {M M' : Mem} {w w1 w' : World} (h : Fr κ M w κ' M' w1) {r : Nat} (hr : w.heap.size ≤ r) (hw : ∀ b, b ≠ r → w'.heap[b]? = w1.heap[b]?) (hsz : w'.heap.size = w1.heap.size) (h1 : w'.os = w1.os) (h2 : w'.tape = w1.tape) (h3 : w'.output = w1.output) : Fr κ M w κ' M' w' :=
  ⟨h.sts, h1.trans h.os, h2.trans h.tape, h3.trans h.output, by rw [hsz]; exact h.size, fun b hb hn => (hw b (by omega)).trans (h.keep b hb hn), h.owns⟩
end
end Go.Sv
