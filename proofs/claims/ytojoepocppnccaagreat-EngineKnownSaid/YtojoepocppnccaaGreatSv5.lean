/- A second evaluator for the model's code: stores. -/
import Derived.Test.YtojoepocppnccaaGreatSv4
namespace Go.Sv
noncomputable section
open Go.RowKit
variable {P : Program}

/-! ### cells in the place of others -/
theorem splice_get {α : Type} (l : List α) (o : Nat) (vs : List α) (h : o + vs.length ≤ l.length) (k : Nat) : (splice l o vs)[k]? = if o ≤ k ∧ k < o + vs.length then vs[k - o]? else l[k]? := by
  unfold splice
  rw [List.getElem?_append]
  simp only [List.length_take, Nat.min_eq_left (show o ≤ l.length by omega)]
  by_cases h1 : k < o
  · rw [if_pos h1, if_neg (by omega), List.getElem?_take, if_pos h1]
  · rw [if_neg h1, List.getElem?_append]
    by_cases h2 : k - o < vs.length
    · rw [if_pos h2, if_pos (by omega)]
    · rw [if_neg h2, if_neg (by omega), List.getElem?_drop]
      congr 1; omega
theorem splice_append {α : Type} (a b c d : List α) (o : Nat) (vs : List α) (ho : a.length = o) (hb : b.length = vs.length) : splice (a ++ (b ++ c) ++ d) o vs = a ++ (vs ++ c) ++ d := by
  subst ho
  unfold splice
  simp [← hb]
theorem splice_elem {α : Type} {zc e : List α} {n w i j : Nat} (hl : zc.length = n * w) (he : e.length = w) (hi : i < n) : ((splice zc (i * w) e).drop (j * w)).take w = if j = i then e else (zc.drop (j * w)).take w := by
  have hle : i * w + w ≤ n * w := by
    have := Nat.mul_le_mul_right w (Nat.succ_le_of_lt hi)
    rw [Nat.succ_mul] at this; exact this
  apply List.ext_getElem?
  intro k
  rw [List.getElem?_take]
  by_cases hk : k < w
  · rw [if_pos hk, List.getElem?_drop, splice_get _ _ _ (by omega)]
    by_cases hji : j = i
    · subst hji
      rw [if_pos rfl, if_pos (by omega)]
      congr 1; omega
    · rw [if_neg hji, List.getElem?_take, if_pos hk, List.getElem?_drop, if_neg]
      rintro ⟨h1, h2⟩
      rcases Nat.lt_or_gt_of_ne hji with h | h
      · have := Nat.mul_le_mul_right w (Nat.succ_le_of_lt h)
        rw [Nat.succ_mul] at this; omega
      · have := Nat.mul_le_mul_right w (Nat.succ_le_of_lt h)
        rw [Nat.succ_mul] at this; omega
  · rw [if_neg hk]
    by_cases hji : j = i
    · rw [if_pos hji, List.getElem?_eq_none (by omega)]
    · rw [if_neg hji, List.getElem?_take, if_neg hk]
theorem splice_splice {α : Type} {z1 zc z3 : List α} {n w i off : Nat} {ys : List α} (hl : zc.length = n * w) (hi : i < n) (ho : off + ys.length ≤ w) :
    splice (z1 ++ (zc ++ z3)) (z1.length + (i * w + off)) ys = z1 ++ (splice zc (i * w) (splice ((zc.drop (i * w)).take w) off ys) ++ z3) := by
  have hle : i * w + w ≤ n * w := by
    have := Nat.mul_le_mul_right w (Nat.succ_le_of_lt hi)
    rw [Nat.succ_mul] at this; exact this
  have hel : ((zc.drop (i * w)).take w).length = w := by simp; omega
  have hsl : (splice ((zc.drop (i * w)).take w) off ys).length = w := by rw [splice_length _ _ _ (by omega)]; exact hel
  apply List.ext_getElem?
  intro k
  rw [splice_get _ _ _ (by simp; omega)]
  rw [List.getElem?_append (l₁ := z1), List.getElem?_append (l₁ := z1)]
  by_cases h1 : k < z1.length
  · rw [if_pos h1, if_neg (by omega), if_pos h1]
  · rw [if_neg h1, if_neg h1, List.getElem?_append, List.getElem?_append, splice_length _ _ _ (by omega)]
    by_cases h2 : k - z1.length < zc.length
    · rw [if_pos h2, if_pos h2, splice_get _ _ _ (by omega), hsl]
      by_cases h3 : i * w ≤ k - z1.length ∧ k - z1.length < i * w + w
      · rw [if_pos h3, splice_get _ _ _ (by omega)]
        by_cases h4 : z1.length + (i * w + off) ≤ k ∧ k < z1.length + (i * w + off) + ys.length
        · rw [if_pos h4, if_pos (by omega)]
          congr 1; omega
        · rw [if_neg h4, if_neg (by omega), List.getElem?_take, if_pos (by omega), List.getElem?_drop]
          congr 1; omega
      · rw [if_neg h3, if_neg (by omega)]
    · rw [if_neg h2, if_neg h2, if_neg (by omega)]

theorem splice_one {l vs : List Value} {o : Nat} (h1 : ∀ z ∈ l, oneV z = true) (h2 : ∀ z ∈ vs, oneV z = true) : ∀ z ∈ splice l o vs, oneV z = true := by
  intro z hz
  unfold splice at hz
  rcases List.mem_append.1 hz with h | h
  · exact h1 z (List.mem_of_mem_take h)
  · rcases List.mem_append.1 h with h | h
    · exact h2 z h
    · exact h1 z (List.mem_of_mem_drop h)

def putFlat : List AV → Nat → Nat → List AV → Option (List AV)
  | c, 0, s, vs => match dropW c s with
    | some r => some (vs ++ r)
    | none => none
  | [], _ + 1, _, _ => none
  | x :: xs, o + 1, s, vs => bif Nat.ble (width x) (o + 1) then (match putFlat xs (o + 1 - width x) s vs with | some r => some (x :: r) | none => none) else none
section
variable {R : Type}
def updAtK : List AV → Nat → (AV → (AV → Option R) → Option R) → (List AV → Option R) → Option R
  | [], _, _, _ => none
  | x :: xs, 0, g, k => g x fun y => k (y :: xs)
  | x :: xs, o + 1, g, k => bif Nat.ble (width x) (o + 1) then updAtK xs (o + 1 - width x) g fun r => k (x :: r) else none
/-- Cells at a place are set. -/
def putK : List (Nat × Nat × Nat) → List AV → Nat → Nat → List AV → (List AV → Option R) → Option R
  | [], c, o, s, vs, k => match putFlat c o s vs with
    | some c' => k c'
    | none => none
  | (o1, i, w) :: ps, c, o, s, vs, k => updAtK c o1 (fun x k' => match x with
    | .arr w' n f us => bif Nat.beq w w' then bif Nat.blt i n then eltK us f i fun cell => putK ps cell o s vs fun e => k' (.arr w' n f ((i, e) :: us)) else none else none
    | _ => none) k
end

theorem putFlat_spec {s : Nat} {vs : List AV} : ∀ (c : List AV) (o : Nat) (c' : List AV), putFlat c o s vs = some c' → ∃ pre old post, c = pre ++ (old ++ post) ∧ c' = pre ++ (vs ++ post) ∧ cw pre = o ∧ cw old = s
  | c, 0, c', h => by
    have h' : (match dropW c s with | some r => some (vs ++ r) | none => none) = some c' := by cases c <;> exact h
    split at h'
    · rename_i r hr
      simp only [Option.some.injEq] at h'; subst h'
      obtain ⟨c0, rfl, h1⟩ := dropW_spec _ _ _ hr
      exact ⟨[], c0, r, rfl, rfl, rfl, h1⟩
    · cases h'
  | [], o + 1, c', h => by simp [putFlat] at h
  | x :: xs, o + 1, c', h => by
    simp only [putFlat] at h
    obtain ⟨hb, h⟩ := cond_some h
    split at h
    · rename_i r hr
      simp only [Option.some.injEq] at h; subst h
      obtain ⟨pre, old, post, rfl, rfl, h1, h2⟩ := putFlat_spec xs _ r hr
      exact ⟨x :: pre, old, post, rfl, rfl, by simp only [cw, h1]; have := Nat.le_of_ble_eq_true hb; omega, h2⟩
    · cases h
theorem updAtK_some {R : Type} {g : AV → (AV → Option R) → Option R} {r : R} : ∀ (c : List AV) (o : Nat) (k : List AV → Option R), updAtK c o g k = some r → ∃ pre x post, c = pre ++ x :: post ∧ cw pre = o ∧ g x (fun y => k (pre ++ y :: post)) = some r
  | [], o, k, h => by simp [updAtK] at h
  | x :: xs, 0, k, h => ⟨[], x, xs, rfl, rfl, h⟩
  | x :: xs, o + 1, k, h => by
    simp only [updAtK] at h
    obtain ⟨hb, h⟩ := cond_some h
    obtain ⟨pre, y, post, rfl, h1, h2⟩ := updAtK_some xs _ _ h
    exact ⟨x :: pre, y, post, rfl, by simp only [cw, h1]; have := Nat.le_of_ble_eq_true hb; omega, h2⟩

theorem putK_ok {R : Type} {r : R} : ∀ (ps : List (Nat × Nat × Nat)) {c : List AV} {o s : Nat} {vs : List AV} {k : List AV → Option R}, putK ps c o s vs k = some r → ∃ c', k c' = some r ∧
    ∀ (κ : Kap) (zs ys : List Value), CRel κ c zs → CRel (if ps = [] then κ else κ.nl) vs ys → cw vs = s → (∀ y ∈ ys, oneV y = true) → CRel κ c' (splice zs (plen ps + o) ys) ∧ plen ps + o + ys.length ≤ zs.length
  | [], c, o, s, vs, k, h => by
    simp only [putK] at h
    split at h
    · rename_i c' hp
      obtain ⟨pre, old, post, rfl, rfl, h1, h2⟩ := putFlat_spec _ _ _ hp
      refine ⟨_, h, fun κ zs ys hc hv hs hone => ?_⟩
      obtain ⟨z1, z', rfl, a1, a2⟩ := hc.split
      obtain ⟨z2, z3, rfl, a3, a4⟩ := a2.split
      rw [if_pos rfl] at hv
      have l1 := a1.length; have l2 := a3.length; have l3 := hv.length
      have := splice_append z1 z2 z3 [] o ys (by omega) (by omega)
      simp only [List.append_nil] at this
      simp only [plen, Nat.zero_add, this]
      exact ⟨a1.append (hv.append a4), by simp; omega⟩
    · cases h
  | (o1, i, w) :: ps, c, o, s, vs, k, h => by
    simp only [putK] at h
    obtain ⟨pre, x, post, rfl, h1, h2⟩ := updAtK_some _ _ _ h
    split at h2
    · rename_i w' n f us
      obtain ⟨hw, h3⟩ := cond_some h2
      obtain ⟨hi, h4⟩ := cond_some h3
      rw [eltK_eq] at h4
      obtain ⟨e, h5, h7⟩ := putK_ok ps h4
      have hi : i < n := by simpa [Nat.blt_eq] using hi
      have hw := Nat.eq_of_beq_eq_true hw
      refine ⟨_, h5, ?_⟩
      · subst hw
        intro κ zs ys hc hv hs hone
        rw [if_neg (by simp)] at hv
        obtain ⟨z1, z', rfl, a1, a2⟩ := hc.split
        cases a2 with
        | arr _ _ _ _ zc b1 bo b2 b3 b4 b5 =>
          rename_i z3
          subst b4
          have hel := b3 i hi
          have hv' : CRel (if ps = [] then κ.nl else κ.nl.nl) vs ys := by
            have : (if ps = [] then κ.nl else κ.nl.nl) = κ.nl := by split <;> rfl
            rw [this]; exact hv
          obtain ⟨g1, g2⟩ := h7 κ.nl _ ys hel hv' hs hone
          have l1 := a1.length
          have hle : i * w + w ≤ n * w := by
            have := Nat.mul_le_mul_right w (Nat.succ_le_of_lt hi)
            rw [Nat.succ_mul] at this; exact this
          have hell : ((zc.drop (i * w)).take w).length = w := by simp; omega
          have hel' : (splice ((zc.drop (i * w)).take w) (plen ps + o) ys).length = w := by rw [splice_length _ _ _ g2]; exact hell
          have e1 := splice_splice (z1 := z1) (zc := zc) (z3 := z3) (n := n) (w := w) (i := i) (off := plen ps + o) (ys := ys) b1 hi (by omega)
          have e2 : plen ((o1, i, w) :: ps) + o = z1.length + (i * w + (plen ps + o)) := by simp only [plen]; omega
          rw [e2, e1]
          refine ⟨a1.append (.arr w n f _ (splice zc (i * w) (splice ((zc.drop (i * w)).take w) (plen ps + o) ys)) (by rw [splice_length _ _ _ (by omega)]; exact b1) (splice_one bo (splice_one (fun z hz => bo z (List.mem_of_mem_drop (List.mem_of_mem_take hz))) hone)) (fun j hj => ?_) (fun j hj => ?_) rfl b5), by simp; omega⟩
          · simp only [elt]
            by_cases hji : j = i
            · subst hji; rw [Nat.beq_refl, cond_true, ← g1.length]; exact hel'
            · rw [beq_false hji, cond_false]; exact b2 j hj
          · rw [splice_elem b1 hel' hi]
            simp only [elt]
            by_cases hji : j = i
            · subst hji; rw [Nat.beq_refl, cond_true, if_pos rfl]; exact g1
            · rw [beq_false hji, cond_false, if_neg hji]; exact b3 j hj
    · cases h2
end
end Go.Sv
