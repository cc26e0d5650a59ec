/- A second evaluator for the model's code: a slice as an array. -/
import Derived.Test.YtojoepocppnccaaGreatSvD2
namespace Go.Sv
noncomputable section
open Go.RowKit
variable {P : Program}

def lastS {α : Type} : List α → Option (List α × α)
  | [] => none
  | [x] => some ([], x)
  | x :: y :: r => match lastS (y :: r) with
    | some (a, b) => some (x :: a, b)
    | none => none
theorem lastS_eq {α : Type} : ∀ {l a : List α} {b : α}, lastS l = some (a, b) → l = a ++ [b]
  | [], a, b, h => by simp [lastS] at h
  | [x], a, b, h => by simp only [lastS, Option.some.injEq, Prod.mk.injEq] at h; rw [← h.1, ← h.2]; rfl
  | x :: y :: r, a, b, h => by
    simp only [lastS] at h
    split at h
    · rename_i a' b' h'
      simp only [Option.some.injEq, Prod.mk.injEq] at h
      rw [lastS_eq h', ← h.1, ← h.2]; rfl
    · cases h
theorem Place.sub {κ : Kap} {w : World} {b off : Nat} {W n : Nat} {f : Nat → List AV} {us : List (Nat × List AV)} {rest : List AV} (h : Place κ w ⟨b, off, none⟩ (.arr W n f us :: rest)) {i L : Nat} (hi : i + L ≤ n) : Place κ w ⟨b, off + i * W, none⟩ [.arr W L (fun j => elt us f (i + j)) []] := by
  obtain ⟨b', off', cs, e, fr, ha, h1, h2, h3⟩ := h
  cases ha
  have hs := (CRel.split_at (xs := [.arr W n f us]) (us := rest) h3).1
  have hcw : cw [.arr W n f us] = n * W := by simp [cw, width]
  rw [hcw] at hs
  have h4 := arr_take (arr_drop hs (a := i) (by omega)) (m := L) (by omega)
  have hle : (i + L) * W ≤ n * W := Nat.mul_le_mul_right W hi
  rw [Nat.add_mul] at hle
  simp only [cw, width] at h2
  refine ⟨b, off + i * W, cs, e, fr, rfl, h1, by simp only [cw, width]; omega, ?_⟩
  have e1 : cw [.arr W L (fun j => elt us f (i + j)) []] = L * W := by simp [cw, width]
  rw [e1]
  have e2 : (((((cs.toList.drop off).take (cw (.arr W n f us :: rest))).take (n * W)).drop (i * W)).take (L * W)) = (cs.toList.drop (off + i * W)).take (L * W) := by
    simp only [cw, width]
    rw [List.take_take, Nat.min_eq_left (by omega), List.drop_take, List.take_take, List.drop_drop, Nat.min_eq_left (by omega)]
  rw [e2] at h4
  exact h4
section
variable {R : Type} (P)
/-- An array's elements, out of a greater one. -/
def loadSubE (L : Nat) (t : TypeId) (x : AV) (m : List (Nat × Row)) (k : Ent → Option R) (other : Option R) : Option R :=
  match x with
  | .ptr n ps 0 => match lastS ps with
    | some (ps0, (o0, i, w)) => match qrun P (sizeOf t) with
      | some s => bif Nat.beq s (L * w) && Nat.blt 1 L then match find m n with
        | some (.cells c _ _) => walkK c ps0 fun c1 => match dropW c1 o0 with
          | some (.arr w' N f us :: _) => bif Nat.beq w w' && Nat.ble (i + L) N then readT P t [.arr w L (fun j => elt us f (i + j)) []] fun v => k ⟨v, [], 0, [n]⟩ else none
          | _ => none
        | _ => none
        else other
      | none => none
    | none => other
  | _ => other
def loadXE (t : TypeId) (x : Operand) (E : Env) (m : List (Nat × Row)) (k : Ent → Option R) : Option R :=
  match P.underlying t with
  | some (.array L _) => match aeval E x with
    | some p => loadSubE P L t p m k (loadE P t x E m k)
    | none => none
  | _ => loadE P t x E m k
def toArrE (t : TypeId) (x : Operand) (E : Env) (k : Ent → Option R) : Option R :=
  match qrun P (underlying t) with
  | some (.array N _) => match aeval E x with
    | some (.slc n ps o i w len _) => bif Nat.blt 0 N && Nat.ble N len then k ⟨.ptr n (ps ++ [(o, i, w)]) 0, [], 0, []⟩ else none
    | _ => none
  | _ => none
end
theorem loadXE_ok {R : Type} {o : Oper} {t : TypeId} {x : Operand} (ho : o.op = .load t x) {E : Env} {m : List (Nat × Row)} {k : Ent → Option R} {r : R} (h : loadXE P t x E m k = some r) :
    ∃ v rd, k ⟨v, [], 0, rd⟩ = some r ∧ StillOk P o E (find m) v rd := by
  unfold loadXE at h
  split at h
  · rename_i L e hu
    split at h
    · rename_i p hx
      unfold loadSubE at h
      split at h
      · rename_i n ps
        split at h
        · rename_i ps0 o0 i w hl
          split at h
          · rename_i s hs
            cases hb : Nat.beq s (L * w) && Nat.blt 1 L with
            | false => rw [hb, cond_false] at h; exact loadE_ok ho h
            | true =>
              rw [hb, cond_true] at h
              split at h
              · rename_i c own tip hf
                obtain ⟨c1, hw, h2⟩ := walkK_some _ _ _ h
                split at h2
                · rename_i w' N f us rest hd
                  obtain ⟨hc, h3⟩ := cond_some h2
                  simp only [Bool.and_eq_true] at hc
                  have e1 := Nat.eq_of_beq_eq_true hc.1
                  subst e1
                  have hle := Nat.le_of_ble_eq_true hc.2
                  obtain ⟨hne, v, hk, hload, _⟩ := readT_ok h3
                  refine ⟨v, [n], hk, fun κ a wd M hA hR hrd => ?_⟩
                  have hv := hA x (by rw [ho]; simp [Op.operands]) _ hx
                  generalize hea : a.eval x = u at hv
                  cases hv with
                  | ptr _ q _ b _ g1 g2 _ =>
                    have hM : M n = some (.cells c own tip) := by rw [hrd n (List.mem_singleton.2 rfl)]; exact hf
                    have hp := (((hR.place hM g1).walk ps0 hw).drop hd).sub hle
                    have e2 : q = 0 + plen ps0 + o0 + i * w := by rw [g2, lastS_eq hl, plen_append]; simp [plen]; omega
                    rw [← e2] at hp
                    obtain ⟨v', h5, h6⟩ := hload κ wd _ hp
                    refine ⟨v', h5, ?_⟩
                    simp only [execOp, ho, hea]
                    refine run_value ?_
                    exact (run_bind_ok (e := asAddr (.pointer (some ⟨b, q, none⟩))) (a := ⟨b, q, none⟩) (w' := wd) rfl).trans h6
                · cases h2
              · cases h
          · cases h
        · exact loadE_ok ho h
      · exact loadE_ok ho h
    · cases h
  · exact loadE_ok ho h
theorem toArrE_ok {R : Type} {o : Oper} {t : TypeId} {x : Operand} (ho : o.op = .sliceToArrayPointer t x) {E : Env} {k : Ent → Option R} {r : R} (h : toArrE P t x E k = some r) :
    ∃ v, k ⟨v, [], 0, []⟩ = some r ∧ ∀ m, StillOk P o E m v [] := by
  unfold toArrE at h
  split at h
  · rename_i N e hu
    split at h
    · rename_i n ps o' i w len cap hx
      obtain ⟨hb, h⟩ := cond_some h
      simp only [Bool.and_eq_true, Nat.blt_eq] at hb
      have hle := Nat.le_of_ble_eq_true hb.2
      refine ⟨_, h, fun m κ a wd M hA hR _ => ?_⟩
      have hv := hA x (by rw [ho]; simp [Op.operands]) _ hx
      generalize hea : a.eval x = u at hv
      cases hv with
      | slc _ _ _ _ _ _ _ b cap' ad g1 g2 g3 g4 _ =>
        obtain ⟨rfl, _⟩ := g2.resolve_left (by omega)
        have e : plen (ps ++ [(o', i, w)]) + 0 = plen ps + o' + i * w := by rw [plen_append]; simp [plen]; omega
        refine ⟨_, .ptr n (plen (ps ++ [(o', i, w)]) + 0) 0 b _ g1 rfl .nil, ?_⟩
        simp only [execOp, ho, hea]
        refine run_value ?_
        unfold Instr.arrayAt
        refine (run_q hu).trans ?_
        simp only [Nat.not_lt.2 hle, if_false]
        rw [e]
        rfl
      | slc0 _ _ _ _ _ _ _ => omega
    · cases h
  · cases h
end
end Go.Sv
