/- A second evaluator for the model's code: appending. -/
import Derived.Test.YtojoepocppnccaaGreatSv9
import Derived.Deep.AppendSrc
import Derived.Deep.Upon
namespace Go.Sv
noncomputable section
open Go.RowKit
variable {P : Program}

/-! ### lists of elements -/
theorem arr_parts {κ : Kap} {w n : Nat} {f : Nat → List AV} {us : List (Nat × List AV)} {zs : List Value} : CRel κ [.arr w n f us] zs ↔
    zs.length = n * w ∧ (∀ z ∈ zs, oneV z = true) ∧ (∀ i, i < n → cw (elt us f i) = w) ∧ (∀ i, i < n → CRel κ.nl (elt us f i) ((zs.drop (i * w)).take w)) := by
  constructor
  · intro h
    cases h with
    | arr _ _ _ _ zc b1 bo b2 b3 b4 b5 =>
      cases b5
      rw [List.append_nil] at b4
      subst b4
      exact ⟨b1, bo, b2, b3⟩
  · rintro ⟨b1, bo, b2, b3⟩
    exact .arr w n f us zs b1 bo b2 b3 (by simp) .nil
theorem arr_take {κ : Kap} {w n m : Nat} {f : Nat → List AV} {us : List (Nat × List AV)} {zs : List Value} (h : CRel κ [.arr w n f us] zs) (hm : m ≤ n) : CRel κ [.arr w m f us] (zs.take (m * w)) := by
  obtain ⟨b1, bo, b2, b3⟩ := arr_parts.1 h
  have hle : m * w ≤ n * w := Nat.mul_le_mul_right w hm
  refine arr_parts.2 ⟨by simp; omega, fun z hz => bo z (List.mem_of_mem_take hz), fun i hi => b2 i (by omega), fun i hi => ?_⟩
  have hle2 : i * w + w ≤ m * w := by
    have := Nat.mul_le_mul_right w (Nat.succ_le_of_lt hi)
    rw [Nat.succ_mul] at this; exact this
  rw [List.drop_take, List.take_take, Nat.min_eq_left (by omega)]
  exact b3 i (by omega)
theorem arr_drop {κ : Kap} {w n a : Nat} {f : Nat → List AV} {us : List (Nat × List AV)} {zs : List Value} (h : CRel κ [.arr w n f us] zs) (ha : a ≤ n) : CRel κ [.arr w (n - a) (fun j => elt us f (a + j)) []] (zs.drop (a * w)) := by
  obtain ⟨b1, bo, b2, b3⟩ := arr_parts.1 h
  refine arr_parts.2 ⟨by rw [List.length_drop, b1, Nat.sub_mul], fun z hz => bo z (List.mem_of_mem_drop hz), fun i hi => b2 (a + i) (by omega), fun i hi => ?_⟩
  have := b3 (a + i) (by omega)
  rw [List.drop_drop, ← Nat.add_mul]
  exact this
theorem arr_ext {κ : Kap} {w n : Nat} {f g : Nat → List AV} {us vs : List (Nat × List AV)} {zs : List Value} (h : CRel κ [.arr w n f us] zs) (he : ∀ i, i < n → elt vs g i = elt us f i) : CRel κ [.arr w n g vs] zs := by
  obtain ⟨b1, bo, b2, b3⟩ := arr_parts.1 h
  exact arr_parts.2 ⟨b1, bo, fun i hi => by rw [he i hi]; exact b2 i hi, fun i hi => by rw [he i hi]; exact b3 i hi⟩
def catF (n : Nat) (us : List (Nat × List AV)) (f : Nat → List AV) (vs : List (Nat × List AV)) (g : Nat → List AV) : Nat → List AV := fun j => bif Nat.blt j n then elt us f j else elt vs g (j - n)
theorem arr_cat {κ : Kap} {w n m : Nat} {f g : Nat → List AV} {us vs : List (Nat × List AV)} {zs ys : List Value} (h : CRel κ [.arr w n f us] zs) (k : CRel κ [.arr w m g vs] ys) :
    CRel κ [.arr w (n + m) (catF n us f vs g) []] (zs ++ ys) := by
  obtain ⟨b1, bo, b2, b3⟩ := arr_parts.1 h
  obtain ⟨c1, co, c2, c3⟩ := arr_parts.1 k
  have hcat : ∀ i, catF n us f vs g i = if i < n then elt us f i else elt vs g (i - n) := by
    intro i
    unfold catF
    by_cases hi : i < n
    · rw [if_pos hi]
      have : Nat.blt i n = true := by rw [Nat.blt_eq]; exact hi
      rw [this]; rfl
    · rw [if_neg hi]
      cases hb : Nat.blt i n
      · rfl
      · rw [Nat.blt_eq] at hb; exact absurd hb hi
  refine arr_parts.2 ⟨by rw [List.length_append, b1, c1, Nat.add_mul], fun z hz => ?_, fun i hi => ?_, fun i hi => ?_⟩
  · rcases List.mem_append.1 hz with h | h
    · exact bo z h
    · exact co z h
  · simp only [elt, hcat]
    split
    · exact b2 i (by assumption)
    · exact c2 _ (by omega)
  · simp only [elt, hcat]
    split
    · rename_i hlt
      have hle2 : i * w + w ≤ n * w := by
        have := Nat.mul_le_mul_right w (Nat.succ_le_of_lt hlt)
        rw [Nat.succ_mul] at this; exact this
      rw [List.drop_append_of_le_length (by omega), List.take_append_of_le_length (by simp; omega)]
      exact b3 i hlt
    · rename_i hge
      have e : (zs ++ ys).drop (i * w) = ys.drop ((i - n) * w) := by
        rw [List.drop_append, b1]
        have hle2 : n * w ≤ i * w := Nat.mul_le_mul_right w (Nat.le_of_not_lt hge)
        rw [List.drop_of_length_le (by omega), List.nil_append, Nat.sub_mul]
      rw [e]
      exact c3 _ (by omega)
theorem arr_snoc {κ : Kap} {w n : Nat} {f : Nat → List AV} {us : List (Nat × List AV)} {c : List AV} {zs ys : List Value} (h : CRel κ [.arr w n f us] zs) (hc : CRel κ.nl c ys) (hw : cw c = w) (ho : ∀ y ∈ ys, oneV y = true) :
    CRel κ [.arr w (n + 1) f ((n, c) :: us)] (zs ++ ys) := by
  have hl := hc.length
  have h1 : CRel κ [.arr w 1 (fun _ => c) []] ys := arr_parts.2 ⟨by omega, ho, fun i _ => hw, fun i hi => by
    have : i = 0 := by omega
    subst this
    rw [Nat.zero_mul, List.drop_zero, List.take_of_length_le (by omega)]; exact hc⟩
  refine arr_ext (arr_cat h h1) fun i hi => ?_
  simp only [elt, catF]
  by_cases e : i = n
  · subst e
    rw [Nat.beq_refl, cond_true]
    have : Nat.blt i i = false := by
      cases hb : Nat.blt i i
      · rfl
      · rw [Nat.blt_eq] at hb; omega
    rw [this]; rfl
  · rw [beq_false e, cond_false]
    have : Nat.blt i n = true := by rw [Nat.blt_eq]; omega
    rw [this]; rfl
theorem arr_none {κ : Kap} {w : Nat} {f : Nat → List AV} {us : List (Nat × List AV)} : CRel κ [.arr w 0 f us] [] := arr_parts.2 ⟨by simp, by simp, fun i hi => by omega, fun i hi => by omega⟩

/-! ### what is appended -/
section
variable {R : Type}
/-- A list's elements: how wide, from which function and settings on, how many; and the rows looked at. -/
def srcK (m : List (Nat × Row)) (x : AV) (k : Nat → (Nat → List AV) → List (Nat × List AV) → Nat → List Nat → Option R) : Option R :=
  match x with
  | .lst w f len us => k w f us len []
  | .raw (.slice none 0 0) => k 0 (fun _ => []) [] 0 []
  | .raw (.slice (some _) 0 _) => k 0 (fun _ => []) [] 0 []
  | .str l => k 1 (fun i => [.int .u8 ((l.getD i 0).toNat : Int)]) [] l.length []
  | .slc n [] o i w len _ => match find m n with
    | some (.cells c _ _) => match dropW c o with
      | some (.arr w' N f us :: _) => bif Nat.beq w w' then bif Nat.ble (add0 i len) N then
          (bif Nat.beq i 0 then k w f us len [n] else k w (fun j => elt us f (i + j)) [] len [n]) else none else none
      | _ => none
    | _ => none
  | _ => none
end
/-- What that says. -/
def SrcOk (κ : Kap) (w : World) (y : Value) (W : Nat) (f : Nat → List AV) (us : List (Nat × List AV)) (len : Nat) : Prop :=
  ∃ news, CRel κ [.arr W len f us] news ∧ ((∃ a c b off, y = .slice (some a) len c ∧ (len = 0 ∨ (a = ⟨b, off, none⟩ ∧ ∃ cs e fr, w.heap[b]? = some (.cells cs e fr) ∧ off + len * W ≤ cs.size ∧ news = (cs.toList.drop off).take (len * W)))) ∨
    (∃ c, y = .slice none 0 c ∧ len = 0) ∨ (∃ l : List UInt8, y = .string ⟨l.toArray⟩ ∧ W = 1 ∧ len = l.length ∧ news = byteCells ⟨l.toArray⟩))

theorem srcK_ok {R : Type} {m : List (Nat × Row)} {x : AV} {k : Nat → (Nat → List AV) → List (Nat × List AV) → Nat → List Nat → Option R} {r : R} (h : srcK m x k = some r) :
    ∃ W f us len rd, k W f us len rd = some r ∧ ∀ (κ : Kap) (w : World) (M : Mem) (y : Value), MRel κ M w → (∀ n ∈ rd, M n = find m n) → VRel κ x y → SrcOk κ w y W f us len := by
  unfold srcK at h
  split at h
  · rename_i W f len us
    refine ⟨W, f, us, len, [], h, fun κ w M y hR _ hv => ?_⟩
    cases hv with
    | lst _ _ b off cap _ _ cs h1 h2 h3 ho h4 h5 _ =>
      obtain ⟨rest, e, fr, hb⟩ := hR.stable b cs h1
      by_cases hl : len = 0
      · subst hl; exact ⟨[], arr_none, .inl ⟨_, cap, b, off, rfl, .inl rfl⟩⟩
      refine ⟨(cs.drop off).take (len * W), ?_, .inl ⟨_, cap, b, off, rfl, .inr ⟨rfl, _, e, fr, hb, by simp; omega, ?_⟩⟩⟩
      · refine arr_parts.2 ⟨by simp; omega, ho, h4, fun i hi => ?_⟩
        · have hle2 : i * W + W ≤ len * W := by
            have := Nat.mul_le_mul_right W (Nat.succ_le_of_lt hi)
            rw [Nat.succ_mul] at this; exact this
          rw [List.drop_take, List.take_take, Nat.min_eq_left (by omega), List.drop_drop]
          exact h5 i hi
      · simp only [List.drop_append_of_le_length (show off ≤ cs.length by omega)]
        rw [List.take_append_of_le_length (by simp; omega)]
    | lst0 _ cap _ _ a _ =>
      refine ⟨[], arr_none, ?_⟩
      cases a with
      | none => exact .inr (.inl ⟨cap, rfl, rfl⟩)
      | some a => exact .inl ⟨a, cap, 0, 0, rfl, .inl rfl⟩
  · refine ⟨_, _, _, _, _, h, fun κ w M y hR _ hv => ?_⟩
    cases hv with
    | raw _ _ => exact ⟨[], arr_none, .inr (.inl ⟨0, rfl, rfl⟩)⟩
  · refine ⟨_, _, _, _, _, h, fun κ w M y hR _ hv => ?_⟩
    cases hv with
    | raw _ _ => exact ⟨[], arr_none, .inl ⟨_, _, 0, 0, rfl, .inl rfl⟩⟩
  · rename_i l
    refine ⟨_, _, _, _, _, h, fun κ w M y hR _ hv => ?_⟩
    cases hv with
    | str _ _ =>
      refine ⟨byteCells ⟨l.toArray⟩, arr_parts.2 ⟨by simp [byteCells], fun z hz => ?_, fun i hi => rfl, fun i hi => ?_⟩, .inr (.inr ⟨l, rfl, rfl, rfl, rfl⟩)⟩
      · obtain ⟨b, _, rfl⟩ := List.mem_map.1 hz; rfl
      · have : (((byteCells ⟨l.toArray⟩).drop (i * 1)).take 1) = [Value.int .u8 ((l.getD i 0).toNat : Int)] := by
          have hlt : i * 1 < (byteCells ⟨l.toArray⟩).length := by simp [byteCells]; omega
          rw [List.drop_eq_getElem_cons hlt, List.take_succ_cons, List.take_zero]
          simp [byteCells, List.getD_eq_getElem?_getD, hi]
        rw [this]; exact .int _ _ .nil
  · rename_i n o i W len cap
    split at h
    · rename_i c own tip hf
      split at h
      · rename_i w' N f us rest hd
        obtain ⟨hw, g1⟩ := cond_some h; clear h
        obtain ⟨hb, h⟩ := cond_some g1; clear g1
        have hw := Nat.eq_of_beq_eq_true hw
        subst hw
        have hb := Nat.le_of_ble_eq_true hb
        rw [add0_eq] at hb
        have key : ∀ (g : Nat → List AV) (us' : List (Nat × List AV)), (∀ j, elt us' g j = elt us f (i + j)) →
            ∀ (κ : Kap) (w0 : World) (M : Mem) (y : Value), MRel κ M w0 → (∀ n' ∈ [n], M n' = find m n') → VRel κ (.slc n [] o i W len cap) y → SrcOk κ w0 y W g us' len := by
          intro g us' hg κ w0 M y hR hM hv
          have hrow : M n = some (.cells c own tip) := by rw [hM n (List.mem_singleton.2 rfl)]; exact hf
          cases hv with
          | slc _ _ _ _ _ _ _ b cap' a h1 h2 h3 h4 hn =>
            by_cases hl : len = 0
            · subst hl; exact ⟨[], arr_none, .inl ⟨a, cap', b, 0, rfl, .inl rfl⟩⟩
            · obtain ⟨ha, s, hs1, hs2⟩ := h2.resolve_left (by omega)
              rcases hR.row n _ hrow with ⟨g1, _⟩ | ⟨b', zs, rst, e, fr, g1, g2, g3, g4, g5, g6, g7⟩
              · rw [h1] at g1; cases g1
              · rw [h1] at g1; cases g1
                obtain ⟨a1, a2⟩ := g3.dropW hd
                obtain ⟨c1, c2, c3, c4⟩ := a1.arr_inv
                have c0 := a1.split_at (xs := [.arr W N f us]) (us := rest)
                have hcw : cw [.arr W N f us] = N * W := by simp [cw, width]
                have harr := (c0.1)
                rw [hcw] at harr
                have := arr_take (arr_drop harr (a := i) (by omega)) (m := len) (by omega)
                have hoff : plen [] + o + i * W = o + i * W := by simp [plen]
                simp only [List.length_drop] at c1
                have hle : (i + len) * W ≤ N * W := Nat.mul_le_mul_right W hb
                rw [Nat.add_mul] at hle
                refine ⟨_, arr_ext this fun j hj => by rw [hg]; rfl, .inl ⟨a, cap', b, o + i * W, rfl, .inr ⟨by rw [ha, hoff], _, e, fr, g2, by simp; omega, ?_⟩⟩⟩
                rw [List.drop_take, List.take_take, List.drop_drop, Nat.min_eq_left (by omega)]
                simp only [List.drop_append_of_le_length (show o + i * W ≤ zs.length by omega)]
                rw [List.take_append_of_le_length (by simp; omega)]
          | slc0 _ _ _ _ _ h1 hn => exact ⟨[], arr_none, .inr (.inl ⟨0, rfl, rfl⟩)⟩
        cases hi : Nat.beq i 0 <;> rw [hi] at h
        · exact ⟨_, _, _, _, _, h, key _ [] fun j => rfl⟩
        · have := Nat.eq_of_beq_eq_true hi
          subst this
          exact ⟨_, _, _, _, _, h, key f us fun j => by rw [Nat.zero_add]⟩
      · cases h
    · cases h
  · cases h
end
end Go.Sv
