/- An evaluator for the model's code over an abstract memory, eighth part: statements that draw their order: plain laws. -/
import Derived.Test.YtopgjinjjpplcaaEv6
namespace Go.Ev
open Go.RowKit

/-! ### cells that are set -/
theorem length_setAll : ∀ (vs : List Value) (c : List Value) (off : Nat), (setAll c off vs).length = c.length
  | [], c, off => rfl
  | v :: vs, c, off => by rw [setAll, length_setAll vs]; simp

theorem setAll_get : ∀ (vs : List Value) (c : List Value) (off x : Nat), (setAll c off vs)[x]? = if off ≤ x ∧ x < off + vs.length ∧ x < c.length then vs[x - off]? else c[x]?
  | [], c, off, x => by
    rw [setAll, if_neg]
    simp; omega
  | v :: vs, c, off, x => by
    rw [setAll, setAll_get vs]
    simp only [List.length_set, List.length_cons]
    by_cases h1 : off + 1 ≤ x ∧ x < off + 1 + vs.length ∧ x < c.length
    · rw [if_pos h1, if_pos (by omega)]
      obtain ⟨y, rfl⟩ : ∃ y, x = off + 1 + y := ⟨x - (off + 1), by omega⟩
      rw [show off + 1 + y - (off + 1) = y from by omega, show off + 1 + y - off = y + 1 from by omega]
      simp
    · rw [if_neg h1]
      by_cases h2 : x = off ∧ x < c.length
      · obtain ⟨rfl, h2⟩ := h2
        rw [if_pos (by omega)]
        simp [h2]
      · by_cases h3 : x = off
        · subst h3
          have h4 : c.length ≤ x := by omega
          rw [if_neg (by omega)]
          simp [h4]
        · rw [if_neg (by omega), List.getElem?_set_ne (Ne.symm h3)]

theorem setAll_comm {c vs vs' : List Value} {off off' : Nat} (h : off + vs.length ≤ off' ∨ off' + vs'.length ≤ off) : setAll (setAll c off vs) off' vs' = setAll (setAll c off' vs') off vs := by
  refine List.ext_getElem? fun x => ?_
  simp only [setAll_get, length_setAll]
  by_cases h1 : off' ≤ x ∧ x < off' + vs'.length ∧ x < c.length
  · rw [if_pos h1]
    by_cases h2 : off ≤ x ∧ x < off + vs.length ∧ x < c.length
    · omega
    · rw [if_neg h2, if_pos h1]
  · rw [if_neg h1]
    by_cases h2 : off ≤ x ∧ x < off + vs.length ∧ x < c.length
    · rw [if_pos h2, if_pos h2]
    · rw [if_neg h2, if_neg h2, if_neg h1]

/-! ### memories that find the same -/
def FindEq (m m' : List (Nat × Row)) : Prop := ∀ n, find m n = find m' n

theorem find_app1 (base i : Nat) (e : Ent) (m : List (Nat × Row)) (x : Nat) : find (app1 base i e m) x = match e.eff with
    | .none => find m x
    | .new _ c => if x = base + i then some ⟨c, true, true⟩ else find m x
    | .set n off vs => if x = n then (find m n).map (fun r => { r with c := setAll r.c off vs }) else find m x := by
  unfold app1
  cases he : e.eff with
  | none => rfl
  | new s c =>
    simp only [find]
    by_cases hx : x = base + i
    · subst hx; rw [beqT]; simp
    · rw [beqF (Ne.symm hx), if_neg hx]; rfl
  | set n off vs =>
    simp only
    cases hn : find m n with
    | none =>
      simp only [Option.map_none]
      by_cases hx : x = n
      · subst hx; rw [if_pos rfl, hn]
      · rw [if_neg hx]
    | some r =>
      simp only [Option.map_some]
      rw [find_upd _ _ _ _ hn]

theorem app1_congr {base i : Nat} {e : Ent} {m m' : List (Nat × Row)} (h : FindEq m m') : FindEq (app1 base i e m) (app1 base i e m') := fun x => by
  rw [find_app1, find_app1]
  cases e.eff with
  | none => exact h x
  | new s c => simp only [h x]
  | set n off vs => simp only [h x, h n]

def Comm (base i : Nat) (e : Ent) (j : Nat) (e' : Ent) : Prop :=
  match e.eff, e'.eff with
  | .new _ _, .new _ _ => i ≠ j
  | .new _ _, .set n _ _ => n ≠ base + i
  | .set n _ _, .new _ _ => n ≠ base + j
  | .set n off vs, .set n' off' vs' => n ≠ n' ∨ off + vs.length ≤ off' ∨ off' + vs'.length ≤ off
  | _, _ => True

theorem app1_comm {base i j : Nat} {e e' : Ent} (h : Comm base i e j e') (m : List (Nat × Row)) : FindEq (app1 base j e' (app1 base i e m)) (app1 base i e (app1 base j e' m)) := fun x => by
  simp only [find_app1]
  unfold Comm at h
  cases he : e.eff with
  | none => cases he' : e'.eff <;> simp only
  | new s c =>
    cases he' : e'.eff with
    | none => simp only
    | new s' c' =>
      simp only [he, he'] at h ⊢
      by_cases h1 : x = base + j
      · rw [if_pos h1, if_neg (by omega), if_pos h1]
      · rw [if_neg h1, if_neg h1]
    | set n off vs =>
      simp only [he, he'] at h ⊢
      rw [if_neg h]
      by_cases h1 : x = n
      · subst h1; rw [if_pos rfl, if_neg h, if_pos rfl]
      · rw [if_neg h1, if_neg h1]
  | set n off vs =>
    cases he' : e'.eff with
    | none => simp only
    | new s' c' =>
      simp only [he, he'] at h ⊢
      rw [if_neg h]
      by_cases h1 : x = n
      · subst h1; rw [if_neg h, if_pos rfl, if_pos rfl]
      · rw [if_neg h1, if_neg h1]
    | set n' off' vs' =>
      simp only [he, he'] at h ⊢
      by_cases hn : n = n'
      · subst hn
        have h4 := h.resolve_left (fun h => h rfl)
        by_cases h1 : x = n
        · subst h1
          simp only [if_true]
          cases find m x with
          | none => rfl
          | some r => simp only [Option.map_some]; rw [setAll_comm h4]
        · simp only [if_neg h1]
      · by_cases h1 : x = n'
        · subst h1
          simp only [if_true, if_neg (Ne.symm hn)]
        · simp only [if_neg h1, if_neg hn]

/-! ### what a set of operations has done -/
def appL (base : Nat) (listed : Array Bool) : Nat → List Ent → List (Nat × Row) → List (Nat × Row)
  | _, [], m => m
  | i, e :: es, m => appL base listed (i + 1) es (bif listed.getD i false then app1 base i e m else m)

theorem appL_congr {base : Nat} {listed : Array Bool} : ∀ (es : List Ent) (i : Nat) {m m' : List (Nat × Row)}, FindEq m m' → FindEq (appL base listed i es m) (appL base listed i es m')
  | [], _, _, _, h => h
  | e :: es, i, m, m', h => by
    simp only [appL]
    cases listed.getD i false
    · exact appL_congr es _ h
    · exact appL_congr es _ (app1_congr h)

theorem appL_all {base : Nat} {listed : Array Bool} : ∀ (es : List Ent) (i : Nat) (m : List (Nat × Row)), (∀ j, i ≤ j → j < i + es.length → listed.getD j false = true) → appL base listed i es m = appAll base i es m
  | [], _, _, _ => rfl
  | e :: es, i, m, h => by
    simp only [appL, appAll]
    rw [h i (Nat.le_refl _) (by simp)]
    exact appL_all es _ _ fun j h1 h2 => h j (by omega) (by simp; omega)

theorem appL_none {base : Nat} {listed : Array Bool} : ∀ (es : List Ent) (i : Nat) (m : List (Nat × Row)), (∀ j, listed.getD j false = false) → appL base listed i es m = m
  | [], _, _, _ => rfl
  | e :: es, i, m, h => by
    simp only [appL, h i, cond_false]
    exact appL_none es _ _ h

theorem appL_set_late {base : Nat} {listed : Array Bool} {p : Nat} : ∀ (es : List Ent) (i : Nat) (m : List (Nat × Row)), p < i → appL base (listed.setIfInBounds p true) i es m = appL base listed i es m
  | [], _, _, _ => rfl
  | e :: es, i, m, h => by
    simp only [appL]
    rw [getD_set_ne false (by omega : p ≠ i)]
    exact appL_set_late es _ _ (by omega)

theorem app1_past {base : Nat} {listed : Array Bool} {i : Nat} {e : Ent} : ∀ (es : List Ent) (q : Nat) (m : List (Nat × Row)), (∀ j e', es[j]? = some e' → listed.getD (q + j) false = true → Comm base i e (q + j) e') →
    FindEq (appL base listed q es (app1 base i e m)) (app1 base i e (appL base listed q es m))
  | [], _, _, _ => fun _ => rfl
  | e' :: es, q, m, h => by
    simp only [appL]
    have ih := app1_past (base := base) (listed := listed) (i := i) (e := e) es (q + 1)
    have h' : ∀ j e', es[j]? = some e' → listed.getD (q + 1 + j) false = true → Comm base i e (q + 1 + j) e' := fun j e'' hj hl => by
      have := h (j + 1) e'' (by simpa using hj)
      rw [show q + (j + 1) = q + 1 + j from by omega] at this
      exact this hl
    cases hq : listed.getD q false
    · exact ih _ h'
    · have hc := h 0 e' rfl (by simpa using hq)
      exact fun x => (appL_congr es (q + 1) (app1_comm (by simpa using hc) m) x).trans (ih _ h' x)

/-- One operation more. -/
theorem appL_set {base : Nat} {listed : Array Bool} {p : Nat} {e : Ent} : ∀ (es : List Ent) (i : Nat) (m : List (Nat × Row)), i ≤ p → es[p - i]? = some e → listed.getD p false = false → p < listed.size →
    (∀ j e', es[j]? = some e' → p < i + j → listed.getD (i + j) false = true → Comm base p e (i + j) e') →
    FindEq (appL base (listed.setIfInBounds p true) i es m) (app1 base p e (appL base listed i es m))
  | [], i, m, _, he, _, _, _ => by simp at he
  | e0 :: es, i, m, hle, he, hl, hsz, hc => by
    simp only [appL]
    by_cases hip : i = p
    · subst hip
      simp at he
      subst he
      have h1 : (listed.setIfInBounds i true).getD i false = true := by simp [hsz]
      rw [h1, hl, appL_set_late es (i + 1) _ (by omega)]
      simp only [cond_true, cond_false]
      refine app1_past es (i + 1) m fun j e' hj hl' => ?_
      have := hc (j + 1) e' (by simpa using hj) (by omega)
      rw [show i + (j + 1) = i + 1 + j from by omega] at this
      exact this hl'
    · rw [getD_set_ne false (fun h => hip h.symm)]
      refine appL_set es (i + 1) _ (by omega) ?_ hl hsz fun j e' hj hlt hl' => ?_
      · rw [show p - i = (p - (i + 1)) + 1 from by omega] at he
        simpa using he
      · have := hc (j + 1) e' (by simpa using hj) (by omega)
        rw [show i + (j + 1) = i + 1 + j from by omega] at this
        exact this hl'

def HasRow (m : List (Nat × Row)) (n len : Nat) : Prop := ∃ row, find m n = some row ∧ row.own = true ∧ row.c.length = len

theorem app1_has {base i : Nat} {e : Ent} {m : List (Nat × Row)} {n len : Nat} (h : HasRow m n len) (hn : n ≠ base + i) : HasRow (app1 base i e m) n len := by
  obtain ⟨row, h1, h2, h3⟩ := h
  unfold HasRow
  rw [find_app1]
  cases e.eff with
  | none => exact ⟨row, h1, h2, h3⟩
  | new s c => exact ⟨row, by simp only [if_neg hn]; exact h1, h2, h3⟩
  | set n' off vs =>
    by_cases e : n = n'
    · subst e
      exact ⟨{ row with c := setAll row.c off vs }, by simp [h1], h2, by simp [length_setAll, h3]⟩
    · exact ⟨row, by simp only [if_neg e]; exact h1, h2, h3⟩

theorem appL_has {base : Nat} {listed : Array Bool} {n len : Nat} : ∀ (es : List Ent) (i : Nat) (m : List (Nat × Row)), HasRow m n len → (∀ j, i ≤ j → n ≠ base + j) → HasRow (appL base listed i es m) n len
  | [], _, _, h, _ => h
  | e :: es, i, m, h, hn => by
    simp only [appL]
    refine appL_has es (i + 1) _ ?_ fun j hj => hn j (by omega)
    cases listed.getD i false
    · exact h
    · exact app1_has h (hn i (Nat.le_refl _))

theorem appL_has_new {base : Nat} {listed : Array Bool} {p : Nat} {e : Ent} {s : Option (Nat × Nat)} {c : List Value} (he : e.eff = .new s c) : ∀ (es : List Ent) (i : Nat) (m : List (Nat × Row)), i ≤ p → es[p - i]? = some e → listed.getD p false = true → HasRow (appL base listed i es m) (base + p) c.length
  | [], i, m, _, h, _ => by simp at h
  | e0 :: es, i, m, hle, h, hl => by
    simp only [appL]
    by_cases hip : i = p
    · subst hip
      simp at h
      subst h
      rw [hl]
      refine appL_has es (i + 1) _ ?_ fun j hj => by omega
      exact ⟨⟨c, true, true⟩, by rw [cond_true, find_app1, he]; simp, rfl, rfl⟩
    · refine appL_has_new he es (i + 1) _ (by omega) ?_ hl
      rw [show p - i = (p - (i + 1)) + 1 from by omega] at h
      simpa using h
end Go.Ev
