/- The plain law of Cut: of greater spans it leaves greater ones. -/
import Derived.Test.YtopgjinjjpplcaaSpanM
namespace Go.Ev
open Go.Proofs
theorem apLo_eq (a b c d : Int) : apLo a b c d = if c = d ∧ a ≠ b ∧ a = c then (a + 1) % 18446744073709551616 else a := by
  unfold apLo
  rw [wrap_u64]
  by_cases h1 : c = d
  · by_cases h2 : a = b
    · simp [h2]
    · by_cases h3 : a = c
      · have e1 : (c == d) = true := by simpa using h1
        have e2 : (a == b) = false := by simpa using h2
        have e3 : (a == c) = true := by simpa using h3
        rw [e1, e2, e3, if_pos ⟨h1, h2, h3⟩]; rfl
      · have e3 : (a == c) = false := by simpa using h3
        rw [e3, if_neg (fun h => h3 h.2.2), Bool.and_false, Bool.and_false]; rfl
  · have e1 : (c == d) = false := by simpa using h1
    rw [e1, if_neg (fun h => h1 h.1)]; rfl
theorem apHi_eq (a b c d : Int) : apHi a b c d = if c = d ∧ a ≠ b ∧ a ≠ c ∧ b = c then (b - 1) % 18446744073709551616 else b := by
  unfold apHi
  rw [wrap_u64]
  by_cases h : c = d ∧ a ≠ b ∧ a ≠ c ∧ b = c
  · have e1 : (c == d) = true := by simpa using h.1
    have e2 : (a == b) = false := by simpa using h.2.1
    have e3 : (a == c) = false := by simpa using h.2.2.1
    have e4 : (b == c) = true := by simpa using h.2.2.2
    rw [e1, e2, e3, e4, if_pos h]; rfl
  · rw [if_neg h]
    have : ((c == d) && (!(a == b) && (!(a == c) && (b == c)))) = false := by
      cases e1 : (c == d)
      · rfl
      cases e2 : (a == b)
      rotate_left
      · rfl
      cases e3 : (a == c)
      rotate_left
      · rfl
      cases e4 : (b == c)
      · rfl
      exfalso
      simp only [beq_iff_eq, beq_eq_false_iff_ne] at e1 e2 e3 e4
      exact h ⟨e1, e2, e3, e4⟩
    rw [this]; rfl
theorem ctIs_iff {t a b c d : Int} (ht : t = 27 ∨ t = 28 ∨ t = 29 ∨ t = 30 ∨ t = 31 ∨ t = 32) : ctIs t a b c d = true ↔
    (t = 27 ∧ (if c > a then c else a) ≤ (if d < b then d else b)) ∨ (t = 28 ∧ ¬ (a = b ∧ c = d ∧ a = c)) ∨ (t = 29 ∧ a < d) ∨ (t = 30 ∧ a ≤ d) ∨ (t = 31 ∧ c < b) ∨ (t = 32 ∧ c ≤ b) := by
  rcases ht with rfl | rfl | rfl | rfl | rfl | rfl
  · show decide _ = true ↔ _
    simp
  · show (!((a == b) && ((c == d) && (a == c)))) = true ↔ _
    simp; omega
  · show decide _ = true ↔ _
    simp
  · show decide _ = true ↔ _
    simp
  · show decide _ = true ↔ _
    simp
  · show decide _ = true ↔ _
    simp
/-- Under: of greater spans greater ones are left. -/
theorem ct_mono {t a b c d A B C D : Int} (ht : t = 27 ∨ t = 28 ∨ t = 29 ∨ t = 30 ∨ t = 31 ∨ t = 32)
    (h1 : 0 ≤ A ∧ A ≤ a ∧ a ≤ b ∧ b ≤ B ∧ B < 18446744073709551616) (h2 : 0 ≤ C ∧ C ≤ c ∧ c ≤ d ∧ d ≤ D ∧ D < 18446744073709551616) (hi : ctIs t a b c d = true) :
    ctIs t A B C D = true ∧ ctALo t A B C D ≤ ctALo t a b c d ∧ ctAHi t a b c d ≤ ctAHi t A B C D ∧ ctBLo t A B C D ≤ ctBLo t a b c d ∧ ctBHi t a b c d ≤ ctBHi t A B C D := by
  have hi' := (ctIs_iff ht).1 hi
  rw [ctIs_iff ht]
  rcases ht with rfl | rfl | rfl | rfl | rfl | rfl
  · show _ ∧ (if C > A then C else A) ≤ (if c > a then c else a) ∧ (if d < b then d else b) ≤ (if D < B then D else B) ∧ (if C > A then C else A) ≤ (if c > a then c else a) ∧ (if d < b then d else b) ≤ (if D < B then D else B)
    have : (if c > a then c else a) ≤ (if d < b then d else b) := by omega
    refine ⟨.inl ⟨rfl, ?_⟩, ?_, ?_, ?_, ?_⟩ <;> omega
  · show _ ∧ apLo A B C D ≤ apLo a b c d ∧ apHi a b c d ≤ apHi A B C D ∧ apLo C D A B ≤ apLo c d a b ∧ apHi c d a b ≤ apHi C D A B
    rw [apLo_eq, apLo_eq, apLo_eq, apLo_eq, apHi_eq, apHi_eq, apHi_eq, apHi_eq]
    have : ¬ (a = b ∧ c = d ∧ a = c) := by omega
    refine ⟨.inr (.inl ⟨rfl, by omega⟩), ?_, ?_, ?_, ?_⟩ <;> split <;> split <;> omega
  · show _ ∧ A ≤ a ∧ (if IntKind.wrap IntKind.u64 (d - 1) < b then IntKind.wrap IntKind.u64 (d - 1) else b) ≤ (if IntKind.wrap IntKind.u64 (D - 1) < B then IntKind.wrap IntKind.u64 (D - 1) else B) ∧ (if IntKind.wrap IntKind.u64 (A + 1) > C then IntKind.wrap IntKind.u64 (A + 1) else C) ≤ (if IntKind.wrap IntKind.u64 (a + 1) > c then IntKind.wrap IntKind.u64 (a + 1) else c) ∧ d ≤ D
    rw [wrap_u64, wrap_u64, wrap_u64, wrap_u64]
    have : a < d := by omega
    refine ⟨by omega, by omega, ?_, ?_, by omega⟩ <;> split <;> split <;> omega
  · show _ ∧ A ≤ a ∧ (if d < b then d else b) ≤ (if D < B then D else B) ∧ (if A > C then A else C) ≤ (if a > c then a else c) ∧ d ≤ D
    refine ⟨by omega, by omega, ?_, ?_, by omega⟩ <;> omega
  · show _ ∧ (if IntKind.wrap IntKind.u64 (C + 1) > A then IntKind.wrap IntKind.u64 (C + 1) else A) ≤ (if IntKind.wrap IntKind.u64 (c + 1) > a then IntKind.wrap IntKind.u64 (c + 1) else a) ∧ b ≤ B ∧ C ≤ c ∧ (if IntKind.wrap IntKind.u64 (b - 1) < d then IntKind.wrap IntKind.u64 (b - 1) else d) ≤ (if IntKind.wrap IntKind.u64 (B - 1) < D then IntKind.wrap IntKind.u64 (B - 1) else D)
    rw [wrap_u64, wrap_u64, wrap_u64, wrap_u64]
    have : c < b := by omega
    refine ⟨by omega, ?_, by omega, by omega, ?_⟩ <;> split <;> split <;> omega
  · show _ ∧ (if C > A then C else A) ≤ (if c > a then c else a) ∧ b ≤ B ∧ C ≤ c ∧ (if b < d then b else d) ≤ (if B < D then B else D)
    refine ⟨by omega, ?_, by omega, by omega, ?_⟩ <;> omega
/-- What is left lies under what there was, and may be. -/
theorem ct_under {t a b c d : Int} (ht : t = 27 ∨ t = 28 ∨ t = 29 ∨ t = 30 ∨ t = 31 ∨ t = 32)
    (h1 : 0 ≤ a ∧ a ≤ b ∧ b < 18446744073709551616) (h2 : 0 ≤ c ∧ c ≤ d ∧ d < 18446744073709551616) (hi : ctIs t a b c d = true) :
    (a ≤ ctALo t a b c d ∧ ctALo t a b c d ≤ ctAHi t a b c d ∧ ctAHi t a b c d ≤ b) ∧ (c ≤ ctBLo t a b c d ∧ ctBLo t a b c d ≤ ctBHi t a b c d ∧ ctBHi t a b c d ≤ d) := by
  have hi' := (ctIs_iff ht).1 hi
  rcases ht with rfl | rfl | rfl | rfl | rfl | rfl
  · show (a ≤ (if c > a then c else a) ∧ (if c > a then c else a) ≤ (if d < b then d else b) ∧ (if d < b then d else b) ≤ b) ∧ (c ≤ (if c > a then c else a) ∧ (if c > a then c else a) ≤ (if d < b then d else b) ∧ (if d < b then d else b) ≤ d)
    omega
  · show (a ≤ apLo a b c d ∧ apLo a b c d ≤ apHi a b c d ∧ apHi a b c d ≤ b) ∧ (c ≤ apLo c d a b ∧ apLo c d a b ≤ apHi c d a b ∧ apHi c d a b ≤ d)
    rw [apLo_eq, apLo_eq, apHi_eq, apHi_eq]
    have : ¬ (a = b ∧ c = d ∧ a = c) := by omega
    refine ⟨⟨?_, ?_, ?_⟩, ?_, ?_, ?_⟩ <;> (repeat' split) <;> omega
  · show (a ≤ a ∧ a ≤ (if IntKind.wrap IntKind.u64 (d - 1) < b then IntKind.wrap IntKind.u64 (d - 1) else b) ∧ (if IntKind.wrap IntKind.u64 (d - 1) < b then IntKind.wrap IntKind.u64 (d - 1) else b) ≤ b) ∧ (c ≤ (if IntKind.wrap IntKind.u64 (a + 1) > c then IntKind.wrap IntKind.u64 (a + 1) else c) ∧ (if IntKind.wrap IntKind.u64 (a + 1) > c then IntKind.wrap IntKind.u64 (a + 1) else c) ≤ d ∧ d ≤ d)
    rw [wrap_u64, wrap_u64]
    have : a < d := by omega
    refine ⟨⟨?_, ?_, ?_⟩, ?_, ?_, ?_⟩ <;> (repeat' split) <;> omega
  · show (a ≤ a ∧ a ≤ (if d < b then d else b) ∧ (if d < b then d else b) ≤ b) ∧ (c ≤ (if a > c then a else c) ∧ (if a > c then a else c) ≤ d ∧ d ≤ d)
    omega
  · show (a ≤ (if IntKind.wrap IntKind.u64 (c + 1) > a then IntKind.wrap IntKind.u64 (c + 1) else a) ∧ (if IntKind.wrap IntKind.u64 (c + 1) > a then IntKind.wrap IntKind.u64 (c + 1) else a) ≤ b ∧ b ≤ b) ∧ (c ≤ c ∧ c ≤ (if IntKind.wrap IntKind.u64 (b - 1) < d then IntKind.wrap IntKind.u64 (b - 1) else d) ∧ (if IntKind.wrap IntKind.u64 (b - 1) < d then IntKind.wrap IntKind.u64 (b - 1) else d) ≤ d)
    rw [wrap_u64, wrap_u64]
    have : c < b := by omega
    refine ⟨⟨?_, ?_, ?_⟩, ?_, ?_, ?_⟩ <;> (repeat' split) <;> omega
  · show (a ≤ (if c > a then c else a) ∧ (if c > a then c else a) ≤ b ∧ b ≤ b) ∧ (c ≤ c ∧ c ≤ (if b < d then b else d) ∧ (if b < d then b else d) ≤ d)
    omega
/-- Of which numbers a comparison is so. -/
def cmpT (t x y : Int) : Prop := (t = 27 ∧ x = y) ∨ (t = 28 ∧ x ≠ y) ∨ (t = 29 ∧ x < y) ∨ (t = 30 ∧ x ≤ y) ∨ (t = 31 ∧ y < x) ∨ (t = 32 ∧ y ≤ x)
/-- No number is lost. -/
theorem ct_has {t a b c d x y : Int} (h1 : 0 ≤ a ∧ a ≤ x ∧ x ≤ b ∧ b < 18446744073709551616) (h2 : 0 ≤ c ∧ c ≤ y ∧ y ≤ d ∧ d < 18446744073709551616) (hc : cmpT t x y) :
    ctIs t a b c d = true ∧ (ctALo t a b c d ≤ x ∧ x ≤ ctAHi t a b c d) ∧ ctBLo t a b c d ≤ y ∧ y ≤ ctBHi t a b c d := by
  have ht : t = 27 ∨ t = 28 ∨ t = 29 ∨ t = 30 ∨ t = 31 ∨ t = 32 := by rcases hc with h | h | h | h | h | h <;> omega
  rw [ctIs_iff ht]
  unfold cmpT at hc
  rcases ht with rfl | rfl | rfl | rfl | rfl | rfl
  · show _ ∧ ((if c > a then c else a) ≤ x ∧ x ≤ (if d < b then d else b)) ∧ (if c > a then c else a) ≤ y ∧ y ≤ (if d < b then d else b)
    have : x = y := by omega
    refine ⟨.inl ⟨rfl, ?_⟩, ?_⟩ <;> omega
  · show _ ∧ (apLo a b c d ≤ x ∧ x ≤ apHi a b c d) ∧ apLo c d a b ≤ y ∧ y ≤ apHi c d a b
    rw [apLo_eq, apLo_eq, apHi_eq, apHi_eq]
    have : x ≠ y := by omega
    refine ⟨by omega, ⟨?_, ?_⟩, ?_, ?_⟩ <;> (repeat' split) <;> omega
  · show _ ∧ (a ≤ x ∧ x ≤ (if IntKind.wrap IntKind.u64 (d - 1) < b then IntKind.wrap IntKind.u64 (d - 1) else b)) ∧ (if IntKind.wrap IntKind.u64 (a + 1) > c then IntKind.wrap IntKind.u64 (a + 1) else c) ≤ y ∧ y ≤ d
    rw [wrap_u64, wrap_u64]
    have : x < y := by omega
    refine ⟨by omega, ⟨?_, ?_⟩, ?_, ?_⟩ <;> (repeat' split) <;> omega
  · show _ ∧ (a ≤ x ∧ x ≤ (if d < b then d else b)) ∧ (if a > c then a else c) ≤ y ∧ y ≤ d
    have : x ≤ y := by omega
    refine ⟨by omega, ?_⟩; omega
  · show _ ∧ ((if IntKind.wrap IntKind.u64 (c + 1) > a then IntKind.wrap IntKind.u64 (c + 1) else a) ≤ x ∧ x ≤ b) ∧ c ≤ y ∧ y ≤ (if IntKind.wrap IntKind.u64 (b - 1) < d then IntKind.wrap IntKind.u64 (b - 1) else d)
    rw [wrap_u64, wrap_u64]
    have : y < x := by omega
    refine ⟨by omega, ⟨?_, ?_⟩, ?_, ?_⟩ <;> (repeat' split) <;> omega
  · show _ ∧ ((if c > a then c else a) ≤ x ∧ x ≤ b) ∧ c ≤ y ∧ y ≤ (if b < d then b else d)
    have : y ≤ x := by omega
    refine ⟨by omega, ?_⟩; omega
end Go.Ev
