/- The evaluator and the contracts that the walk leans on, part Bt: SL, SM, SN. -/
import Derived.Test.YtmegbaeclpoidaaBs
namespace Go.Sv
open Go.RowKit Go.Proofs
set_option linter.unusedSimpArgs false
set_option linter.unusedVariables false
/-! ### Moved -/
def lMvR (i : Nat) : List (Nat × AV) := [(1, .ptr 0 [] 0), (2, .ptr 1 [] 0), (4, .ptr 2 [] 0), (5, .int .i64 (Int.ofNat i))]
theorem gMvR (i : Nat) : (slots (lMvR i) (Env.mk 6)).get 2 = .ptr 1 [] 0 ∧ (slots (lMvR i) (Env.mk 6)).get 4 = .ptr 2 [] 0 := by
  refine ⟨?_, ?_⟩ <;> kernel_rfl
def nMvR (i : Nat) : Env := ((((Env.mk 6).set 1 (.ptr 0 [] 0)).set 2 (.ptr 1 [] 0)).set 4 (.ptr 2 [] 0)).set 5 (.int .i64 (IntKind.i64.wrap (Int.ofNat (i + 1))))
/-- The rows: the one that is set, the one that is looked at, the result's. -/
def rows3 (r : Nat → Vw) (g : Nat → List AV) (vs : List (Nat × List AV)) (z : AV) (r' : Nat → Vw) (g0 : Nat → List AV) (vs0 : List (Nat × List AV)) (z0 : AV) (r1 : Row) : List (Nat × Row) := [(2, .cells (boxR r g vs z) true false), (0, .cells (boxR r' g0 vs0 z0) true false), (1, r1)]
theorem evMvR (r r' : Nat → Vw) (g g0 : Nat → List AV) (vs vs0 : List (Nat × List AV)) (z z0 : AV) (r1 : Row) (i : Nat) : evCode Try.prog KSK L0 (regB Try.prog) 60 58 (loopOf Try.prog 58 0) (slots (lMvR i) (Env.mk 6)) ⟨3, rows3 r g vs z r' g0 vs0 z0 r1⟩ (fun e E' st' => some (e, keepE E' [1, 2, 4, 5] (Env.mk 6), ([2, 0, 1] : List Nat).map (find st'.mem))) =
  (bif decide (Int.ofNat i < 10) then bif decide (Int.ofNat i < 10) then bif Nat.blt i 10 then
    bif (r' i).k == 2 then bif decide (Int.ofNat i < 10) then bif Nat.blt i 10 then some (.normal, nMvR i, [some (yes1 r i g vs z), some (.cells (boxR r' g0 vs0 z0) true false), some r1]) else none else none else
    bif decide (Int.ofNat i < 10) then bif Nat.blt i 10 then bif (bif false then true else (r' i).k == 3) then bif decide (Int.ofNat i < 10) then bif Nat.blt i 10 then some (.normal, nMvR i, [some (yes1 r i g vs z), some (.cells (boxR r' g0 vs0 z0) true false), some r1]) else none else none else
    some (.normal, nMvR i, [some (.cells (boxR r g vs z) true false), some (.cells (boxR r' g0 vs0 z0) true false), some r1]) else none else none
  else none else none else some (.exit 0, slots (lMvR i) (Env.mk 6), [some (.cells (boxR r g vs z) true false), some (.cells (boxR r' g0 vs0 z0) true false), some r1])) := by kernel_rfl
def fLoopMvR (R : Type) (E : Env) (st : AS) : Option ((EK → Env → AS → Option R) → Option R) :=
  some fun k => match E.get 1, E.get 2, E.get 4, E.get 5, st.mem with
  | .ptr 0 [] 0, .ptr 1 [] 0, .ptr 2 [] 0, .int .i64 i, [(0, .cells [.arr 5 10 f0 us0, .arr 2 8 g0 vs0, z0] true false), (1, r1), (2, .cells [.arr 5 10 f us, .arr 2 8 g vs, z] true false)] =>
    bif Nat.beq st.next 3 && decide (i = 0) && ((okA vOk 10 f us && okA vOk 10 f0 us0) && (noNm z && noNm z0 && rowB r1)) then
      k .normal (slots [(2, .ptr 1 [] 0), (4, .ptr 2 [] 0)] (Env.mk 6)) ⟨3, rows3 (setR isMov (fun i => vOf (elt us f i)) (fun i => vOf (elt us0 f0 i))) g vs z (fun i => vOf (elt us0 f0 i)) g0 vs0 z0 r1⟩ else none
  | _, _, _, _, _ => none
theorem okLoopMvR : LoopFn Try.prog 58 0 fLoopMvR := fun R E st G h hs nb hnb k y hk => by
  unfold fLoopMvR at h
  simp only [Option.some.injEq] at h
  subst h
  dsimp only at hk
  split at hk
  · rename_i i f0 us0 g0 vs0 z0 r1 f us g vs z q1 q2 q4 q5 hm
    obtain ⟨hc, hk1⟩ := cond_some hk
    clear hk
    simp only [Bool.and_eq_true, decide_eq_true_eq] at hc
    obtain ⟨⟨c1, c3⟩, ⟨c4, c4'⟩, ⟨c5, c5'⟩, c6⟩ := hc
    have d1 := Nat.eq_of_beq_eq_true c1
    clear c1
    obtain ⟨next, mem⟩ := st
    dsimp only at hm d1
    subst hm; subst d1; subst c3
    generalize hr : (fun i => vOf (elt us f i)) = r at hk1
    generalize hr' : (fun i => vOf (elt us0 f0 i)) = r' at hk1
    have e1 : ∀ j, j < 10 → vc (r j) = elt us f j := fun j hj => by rw [← hr]; exact vc_of (okA_at c4 hj)
    have e2 : ∀ j, j < 10 → vc (r' j) = elt us0 f0 j := fun j hj => by rw [← hr']; exact vc_of (okA_at c4' hj)
    have hnm : ∀ r, (boxR r g vs z).all noNm = true := fun r => nm3 rfl rfl c5
    have hrest : ([(0, .cells (boxR r' g0 vs0 z0) true false), (1, r1)] : List (Nat × Row)).all (fun p => Nat.blt p.1 3 && rowB p.2) = true := by
      have h0 : rowB (.cells (boxR r' g0 vs0 z0) true false) = true := nm3 rfl rfl c5'
      simp [h0, c6]
    have hl := loop_upd (nb := nb) (g := 58) (id := 0) (d := 6) (q := 3) 10 (fun i => lMvR i) (fun i => rows3 (curR isMov r r' i) g vs z r' g0 vs0 z0 r1) [(2, .ptr 1 [] 0), (4, .ptr 2 [] 0)] (rows3 (setR isMov r r') g vs z r' g0 vs0 z0 r1) (fun i hi => by
      have hev := evMvR (curR isMov r r' i) r' g g0 vs vs0 z z0 r1 i
      have hd : decide (Int.ofNat i < 10) = true := decide_eq_true (by simp; omega)
      have hb : Nat.blt i 10 = true := by simp; omega
      have hn : nMvR i = slots (lMvR (i + 1)) (Env.mk 6) := by
        unfold nMvR
        rw [wrapNat (show i < 9223372036854775807 by omega)]; rfl
      rw [hd, hb, hn] at hev
      simp only [cond_true, cond_false] at hev
      cases hC : isMov (r' i) with
      | true =>
        refine step_set (c := [.arr 5 10 (fun j => vc (curR isMov r r' i j)) [((Int.ofNat i).toNat, vc v0)], .arr 2 8 g vs, z]) (st := ⟨3, rows3 (curR isMov r r' i) g vs z r' g0 vs0 z0 r1⟩) KSK_ok l0_ok (n0 := 2) (rest := [(0, .cells (boxR r' g0 vs0 z0) true false), (1, r1)]) (ts := [1, 2, 4, 5]) (fuel := 60) hs hnb hnb rfl hrest (by omega) (nm3 rfl rfl c5) (fun κ zs => box_ext fun j _ => cur_yes hC j) (hev.trans ?_)
        unfold isMov at hC
        cases h2 : ((r' i).k == 2) with
        | true => rfl
        | false =>
          rw [h2, Bool.false_or] at hC
          rw [hC]; rfl
      | false =>
        refine step_set (c := boxR (curR isMov r r' i) g vs z) (st := ⟨3, rows3 (curR isMov r r' i) g vs z r' g0 vs0 z0 r1⟩) KSK_ok l0_ok (n0 := 2) (rest := [(0, .cells (boxR r' g0 vs0 z0) true false), (1, r1)]) (ts := [1, 2, 4, 5]) (fuel := 60) hs hnb hnb rfl hrest (by omega) (hnm _) (fun κ zs => box_ext fun j _ => cur_no hC j) (hev.trans ?_)
        unfold isMov at hC
        simp only [Bool.or_eq_false_iff] at hC
        rw [hC.1, hC.2]; rfl) (by
      have hev := evMvR (curR isMov r r' 10) r' g g0 vs vs0 z z0 r1 10
      have h := step_set (q := 3) (d := 6) (c := boxR (curR isMov r r' 10) g vs z) (c' := boxR (setR isMov r r') g vs z) (e := .exit 0) (l := lMvR 10) (st := ⟨3, rows3 (curR isMov r r' 10) g vs z r' g0 vs0 z0 r1⟩) KSK_ok l0_ok (n0 := 2) (rest := [(0, .cells (boxR r' g0 vs0 z0) true false), (1, r1)]) (ts := [1, 2, 4, 5]) (fuel := 60) hs hnb hnb rfl hrest (by omega) (hnm _) (fun κ zs => box_ext (us := []) (us' := []) (f := fun j => vc (curR isMov r r' 10 j)) (f' := fun j => vc (setR isMov r r' j)) fun j hj => congrArg vc (cur_end isMov r r' j hj).symm) hev
      refine h.less (less_slots fun p hp => ?_)
      obtain ⟨q1, q2⟩ := gMvR 10
      simp only [List.mem_cons, List.not_mem_nil, or_false] at hp
      rcases hp with rfl | rfl
      · exact q1
      · exact q2)
    have hw : Weak nb (szOf Try.prog 58) E ⟨3, [(0, .cells [.arr 5 10 f0 us0, .arr 2 8 g0 vs0, z0] true false), (1, r1), (2, .cells [.arr 5 10 f us, .arr 2 8 g vs, z] true false)]⟩ (slots (lMvR 0) (Env.mk 6)) ⟨3, rows3 (curR isMov r r' 0) g vs z r' g0 vs0 z0 r1⟩ := weak_pull _root_.id (fun _ _ => rfl) hnb (fun p hp κ z hz => by
      simp only [lMvR, List.mem_cons, List.not_mem_nil, or_false] at hp
      rcases hp with rfl | rfl | rfl | rfl
      · dsimp only at hz; rw [q1] at hz; exact VRel.pull_ptr rfl (by dsimp only; omega) hz
      · dsimp only at hz; rw [q2] at hz; exact VRel.pull_ptr rfl (by dsimp only; omega) hz
      · dsimp only at hz; rw [q4] at hz; exact VRel.pull_ptr rfl (by dsimp only; omega) hz
      · dsimp only at hz; rw [q5] at hz; exact VRel.pull rfl hz) (fun q r2 hf => by
      have hp := find_mem _ _ _ hf
      simp only [rows3, List.mem_cons, List.not_mem_nil, or_false, Prod.mk.injEq] at hp
      rcases hp with ⟨rfl, rfl⟩ | ⟨rfl, rfl⟩ | ⟨rfl, rfl⟩
      · exact ⟨_, rfl, RowLe.told (by dsimp only; omega) (nm3 rfl rfl c5) (fun κ zs => box_ext fun j hj => e1 j hj), fun _ => rfl⟩
      · exact ⟨_, rfl, RowLe.told (by dsimp only; omega) (nm3 rfl rfl c5') (fun κ zs => box_ext fun j hj => e2 j hj), fun _ => rfl⟩
      · exact ⟨_, rfl, RowLe.same (by dsimp only; omega) c6, _root_.id⟩) (fun _ _ _ _ _ _ h => h)
    exact ⟨.exit 0, _, _, hk1, Nat.le_refl _, hl.weak hw⟩
  · cases hk
/-! ### Made -/
def lMdR (reg at1 : Int) (i : Nat) : List (Nat × AV) := [(3, .ptr 0 [] 0), (6, .ptr 1 [] 0), (8, .ptr 2 [] 0), (1, .int .i64 reg), (2, .int .i64 at1), (9, .int .i64 (Int.ofNat i))]
theorem gMdR (reg at1 : Int) (i : Nat) : (slots (lMdR reg at1 i) (Env.mk 7)).get 3 = .ptr 0 [] 0 ∧ (slots (lMdR reg at1 i) (Env.mk 7)).get 6 = .ptr 1 [] 0 ∧ (slots (lMdR reg at1 i) (Env.mk 7)).get 8 = .ptr 2 [] 0 ∧ (slots (lMdR reg at1 i) (Env.mk 7)).get 1 = .int .i64 reg ∧ (slots (lMdR reg at1 i) (Env.mk 7)).get 2 = .int .i64 at1 := by
  refine ⟨?_, ?_, ?_, ?_, ?_⟩ <;> kernel_rfl
def nMdR (reg at1 : Int) (i : Nat) : Env := ((((((Env.mk 7).set 3 (.ptr 0 [] 0)).set 6 (.ptr 1 [] 0)).set 8 (.ptr 2 [] 0)).set 1 (.int .i64 reg)).set 2 (.int .i64 at1)).set 9 (.int .i64 (IntKind.i64.wrap (Int.ofNat (i + 1))))
theorem evMdR (reg at1 : Int) (r r' : Nat → Vw) (g g0 : Nat → List AV) (vs vs0 : List (Nat × List AV)) (z z0 : AV) (r1 : Row) (i : Nat) : evCode Try.prog KSK L0 (regB Try.prog) 60 62 (loopOf Try.prog 62 0) (slots (lMdR reg at1 i) (Env.mk 7)) ⟨3, rows3 r g vs z r' g0 vs0 z0 r1⟩ (fun e E' st' => some (e, keepE E' [3, 6, 8, 1, 2, 9] (Env.mk 7), ([2, 0, 1] : List Nat).map (find st'.mem))) =
  (bif decide (Int.ofNat i < 10) then bif decide (Int.ofNat i < 10) then bif Nat.blt i 10 then
    bif (r' i).k == 2 then bif decide (Int.ofNat i < 10) then bif Nat.blt i 10 then bif (bif true then (r' i).i == IntKind.i64.wrap (1 + at1) else false) then bif decide (Int.ofNat i < 10) then bif Nat.blt i 10 then some (.normal, nMdR reg at1 i, [some (yes1 r i g vs z), some (.cells (boxR r' g0 vs0 z0) true false), some r1]) else none else none else
    some (.normal, nMdR reg at1 i, [some (.cells (boxR r g vs z) true false), some (.cells (boxR r' g0 vs0 z0) true false), some r1]) else none else none else
    some (.normal, nMdR reg at1 i, [some (.cells (boxR r g vs z) true false), some (.cells (boxR r' g0 vs0 z0) true false), some r1])
  else none else none else some (.exit 0, slots (lMdR reg at1 i) (Env.mk 7), [some (.cells (boxR r g vs z) true false), some (.cells (boxR r' g0 vs0 z0) true false), some r1])) := by kernel_rfl
def fLoopMdR (R : Type) (E : Env) (st : AS) : Option ((EK → Env → AS → Option R) → Option R) :=
  some fun k => match E.get 3, E.get 6, E.get 8, E.get 1, E.get 2, E.get 9, st.mem with
  | .ptr 0 [] 0, .ptr 1 [] 0, .ptr 2 [] 0, .int .i64 reg, .int .i64 at1, .int .i64 i, [(0, .cells [.arr 5 10 f0 us0, .arr 2 8 g0 vs0, z0] true false), (1, r1), (2, .cells [.arr 5 10 f us, .arr 2 8 g vs, z] true false)] =>
    bif Nat.beq st.next 3 && decide (i = 0) && ((okA vOk 10 f us && okA vOk 10 f0 us0) && (noNm z && noNm z0 && rowB r1)) then
      k .normal (slots [(3, .ptr 0 [] 0), (6, .ptr 1 [] 0), (8, .ptr 2 [] 0), (1, .int .i64 reg), (2, .int .i64 at1)] (Env.mk 7)) ⟨3, rows3 (setR (isMd (IntKind.i64.wrap (1 + at1))) (fun i => vOf (elt us f i)) (fun i => vOf (elt us0 f0 i))) g vs z (fun i => vOf (elt us0 f0 i)) g0 vs0 z0 r1⟩ else none
  | _, _, _, _, _, _, _ => none
theorem okLoopMdR : LoopFn Try.prog 62 0 fLoopMdR := fun R E st G h hs nb hnb k y hk => by
  unfold fLoopMdR at h
  simp only [Option.some.injEq] at h
  subst h
  dsimp only at hk
  split at hk
  · rename_i reg at1 i f0 us0 g0 vs0 z0 r1 f us g vs z q3 q6 q8 q1 q2 q9 hm
    obtain ⟨hc, hk1⟩ := cond_some hk
    clear hk
    simp only [Bool.and_eq_true, decide_eq_true_eq] at hc
    obtain ⟨⟨c1, c3⟩, ⟨c4, c4'⟩, ⟨c5, c5'⟩, c6⟩ := hc
    have d1 := Nat.eq_of_beq_eq_true c1
    clear c1
    obtain ⟨next, mem⟩ := st
    dsimp only at hm d1
    subst hm; subst d1; subst c3
    generalize hr : (fun i => vOf (elt us f i)) = r at hk1
    generalize hr' : (fun i => vOf (elt us0 f0 i)) = r' at hk1
    have e1 : ∀ j, j < 10 → vc (r j) = elt us f j := fun j hj => by rw [← hr]; exact vc_of (okA_at c4 hj)
    have e2 : ∀ j, j < 10 → vc (r' j) = elt us0 f0 j := fun j hj => by rw [← hr']; exact vc_of (okA_at c4' hj)
    have hnm : ∀ r, (boxR r g vs z).all noNm = true := fun r => nm3 rfl rfl c5
    have hrest : ([(0, .cells (boxR r' g0 vs0 z0) true false), (1, r1)] : List (Nat × Row)).all (fun p => Nat.blt p.1 3 && rowB p.2) = true := by
      have h0 : rowB (.cells (boxR r' g0 vs0 z0) true false) = true := nm3 rfl rfl c5'
      simp [h0, c6]
    have hl := loop_upd (nb := nb) (g := 62) (id := 0) (d := 7) (q := 3) 10 (fun i => lMdR reg at1 i) (fun i => rows3 (curR (isMd (IntKind.i64.wrap (1 + at1))) r r' i) g vs z r' g0 vs0 z0 r1) [(3, .ptr 0 [] 0), (6, .ptr 1 [] 0), (8, .ptr 2 [] 0), (1, .int .i64 reg), (2, .int .i64 at1)] (rows3 (setR (isMd (IntKind.i64.wrap (1 + at1))) r r') g vs z r' g0 vs0 z0 r1) (fun i hi => by
      have hev := evMdR reg at1 (curR (isMd (IntKind.i64.wrap (1 + at1))) r r' i) r' g g0 vs vs0 z z0 r1 i
      have hd : decide (Int.ofNat i < 10) = true := decide_eq_true (by simp; omega)
      have hb : Nat.blt i 10 = true := by simp; omega
      have hn : nMdR reg at1 i = slots (lMdR reg at1 (i + 1)) (Env.mk 7) := by
        unfold nMdR
        rw [wrapNat (show i < 9223372036854775807 by omega)]; rfl
      rw [hd, hb, hn] at hev
      simp only [cond_true, cond_false] at hev
      cases hC : isMd (IntKind.i64.wrap (1 + at1)) (r' i) with
      | true =>
        refine step_set (c := [.arr 5 10 (fun j => vc (curR (isMd (IntKind.i64.wrap (1 + at1))) r r' i j)) [((Int.ofNat i).toNat, vc v0)], .arr 2 8 g vs, z]) (st := ⟨3, rows3 (curR (isMd (IntKind.i64.wrap (1 + at1))) r r' i) g vs z r' g0 vs0 z0 r1⟩) KSK_ok l0_ok (n0 := 2) (rest := [(0, .cells (boxR r' g0 vs0 z0) true false), (1, r1)]) (ts := [3, 6, 8, 1, 2, 9]) (fuel := 60) hs hnb hnb rfl hrest (by omega) (nm3 rfl rfl c5) (fun κ zs => box_ext fun j _ => cur_yes hC j) (hev.trans ?_)
        unfold isMd at hC
        simp only [Bool.and_eq_true] at hC
        rw [hC.1, hC.2]; rfl
      | false =>
        refine step_set (c := boxR (curR (isMd (IntKind.i64.wrap (1 + at1))) r r' i) g vs z) (st := ⟨3, rows3 (curR (isMd (IntKind.i64.wrap (1 + at1))) r r' i) g vs z r' g0 vs0 z0 r1⟩) KSK_ok l0_ok (n0 := 2) (rest := [(0, .cells (boxR r' g0 vs0 z0) true false), (1, r1)]) (ts := [3, 6, 8, 1, 2, 9]) (fuel := 60) hs hnb hnb rfl hrest (by omega) (hnm _) (fun κ zs => box_ext fun j _ => cur_no hC j) (hev.trans ?_)
        unfold isMd at hC
        cases h2 : ((r' i).k == 2) with
        | false => rfl
        | true =>
          rw [h2, Bool.true_and] at hC
          rw [hC]; rfl) (by
      have hev := evMdR reg at1 (curR (isMd (IntKind.i64.wrap (1 + at1))) r r' 10) r' g g0 vs vs0 z z0 r1 10
      have h := step_set (q := 3) (d := 7) (c := boxR (curR (isMd (IntKind.i64.wrap (1 + at1))) r r' 10) g vs z) (c' := boxR (setR (isMd (IntKind.i64.wrap (1 + at1))) r r') g vs z) (e := .exit 0) (l := lMdR reg at1 10) (st := ⟨3, rows3 (curR (isMd (IntKind.i64.wrap (1 + at1))) r r' 10) g vs z r' g0 vs0 z0 r1⟩) KSK_ok l0_ok (n0 := 2) (rest := [(0, .cells (boxR r' g0 vs0 z0) true false), (1, r1)]) (ts := [3, 6, 8, 1, 2, 9]) (fuel := 60) hs hnb hnb rfl hrest (by omega) (hnm _) (fun κ zs => box_ext (us := []) (us' := []) (f := fun j => vc (curR (isMd (IntKind.i64.wrap (1 + at1))) r r' 10 j)) (f' := fun j => vc (setR (isMd (IntKind.i64.wrap (1 + at1))) r r' j)) fun j hj => congrArg vc (cur_end (isMd (IntKind.i64.wrap (1 + at1))) r r' j hj).symm) hev
      refine h.less (less_slots fun p hp => ?_)
      obtain ⟨w1, w2, w3, w4, w5⟩ := gMdR reg at1 10
      simp only [List.mem_cons, List.not_mem_nil, or_false] at hp
      rcases hp with rfl | rfl | rfl | rfl | rfl
      · exact w1
      · exact w2
      · exact w3
      · exact w4
      · exact w5)
    have hw : Weak nb (szOf Try.prog 62) E ⟨3, [(0, .cells [.arr 5 10 f0 us0, .arr 2 8 g0 vs0, z0] true false), (1, r1), (2, .cells [.arr 5 10 f us, .arr 2 8 g vs, z] true false)]⟩ (slots (lMdR reg at1 0) (Env.mk 7)) ⟨3, rows3 (curR (isMd (IntKind.i64.wrap (1 + at1))) r r' 0) g vs z r' g0 vs0 z0 r1⟩ := weak_pull _root_.id (fun _ _ => rfl) hnb (fun p hp κ z hz => by
      simp only [lMdR, List.mem_cons, List.not_mem_nil, or_false] at hp
      rcases hp with rfl | rfl | rfl | rfl | rfl | rfl
      · dsimp only at hz; rw [q3] at hz; exact VRel.pull_ptr rfl (by dsimp only; omega) hz
      · dsimp only at hz; rw [q6] at hz; exact VRel.pull_ptr rfl (by dsimp only; omega) hz
      · dsimp only at hz; rw [q8] at hz; exact VRel.pull_ptr rfl (by dsimp only; omega) hz
      · dsimp only at hz; rw [q1] at hz; exact VRel.pull rfl hz
      · dsimp only at hz; rw [q2] at hz; exact VRel.pull rfl hz
      · dsimp only at hz; rw [q9] at hz; exact VRel.pull rfl hz) (fun q r2 hf => by
      have hp := find_mem _ _ _ hf
      simp only [rows3, List.mem_cons, List.not_mem_nil, or_false, Prod.mk.injEq] at hp
      rcases hp with ⟨rfl, rfl⟩ | ⟨rfl, rfl⟩ | ⟨rfl, rfl⟩
      · exact ⟨_, rfl, RowLe.told (by dsimp only; omega) (nm3 rfl rfl c5) (fun κ zs => box_ext fun j hj => e1 j hj), fun _ => rfl⟩
      · exact ⟨_, rfl, RowLe.told (by dsimp only; omega) (nm3 rfl rfl c5') (fun κ zs => box_ext fun j hj => e2 j hj), fun _ => rfl⟩
      · exact ⟨_, rfl, RowLe.same (by dsimp only; omega) c6, _root_.id⟩) (fun _ _ _ _ _ _ h => h)
    exact ⟨.exit 0, _, _, hk1, Nat.le_refl _, hl.weak hw⟩
  · cases hk
end Go.Sv
namespace Go.Sv
open Go.RowKit Go.Proofs
set_option linter.unusedSimpArgs false
set_option linter.unusedVariables false
def LSM : LT := addL 58 0 fLoopMvR (addL 62 0 fLoopMdR L0)
theorem LSM_ok : LOk Try.prog LSM := addL_ok sprog_ok.1 (by kernel_rfl) okLoopMvR (addL_ok sprog_ok.1 (by kernel_rfl) okLoopMdR l0_ok)
theorem evMoved2 (a : St) : evFn Try.prog KSK LSM (regB Try.prog) 80 58 [stA a] ⟨0, []⟩ kTJ =
  (bif true && okL (kf a.kn) a.kn.length [] then bif chkI (stL a) != 0 then zTJ t0 2 else zTJ ⟨setR isMov a.r a.r, a.s, []⟩ 0 else none) := by kernel_rfl
theorem okMoved2 : FnOk Try.prog 58 (fS1 movR) := fS1_ok fun a => by
  have hev := evMoved2 a
  simp only [okL_kf, stL_eq, chkI_ne, Bool.true_and, cond_true] at hev
  unfold movR
  cases ha : chkB a with
  | false =>
    simp only [ha, Bool.not_false, cond_true] at hev
    exact .zTJ KSK_ok LSM_ok rfl rfl hev
  | true =>
    simp only [ha, Bool.not_true, cond_false] at hev
    exact .zTJ KSK_ok LSM_ok rfl rfl hev
theorem evCalled2 (a : St) : evFn Try.prog KSK LSM (regB Try.prog) 80 60 [stA a] ⟨0, []⟩ kTJ =
  (bif true && okL (kf a.kn) a.kn.length [] then bif chkI (stL a) != 0 then zTJ t0 2 else bif Nat.ble (a.kn.length * 16) LIM then oTJ 5 (calT a) 0 else none else none) := by kernel_rfl
theorem okCalled2 : FnOk Try.prog 60 (fS1 calR) := fS1_ok fun a => by
  have hev := evCalled2 a
  simp only [okL_kf, stL_eq, chkI_ne, Bool.true_and, cond_true] at hev
  unfold calR
  cases ha : chkB a with
  | false =>
    simp only [ha, Bool.not_false, cond_true] at hev
    exact .zTJ KSK_ok LSM_ok rfl rfl hev
  | true =>
    simp only [ha, Bool.not_true, cond_false, cond_true, len_16 (chkB_iff.1 ha).kn] at hev
    exact .oTJ KSK_ok LSM_ok rfl hev
def oTM2 (q : Nat) (t : St) (n : Nat) (id id' : Int) (kn : List (Int × Int)) : Option (List (List AV) × List (List AV) × AV × Int × Option Row) := some ((List.range 10).map fun i => bif Nat.beq i n then vc (ptrV id) else vc (setR (isMd id') t.r t.r i), (List.range 8).map fun i => sc (t.s i), .slc q [] 0 0 2 kn.length kn.length, 0, some (rOf kn))
theorem oTM2_eq (q : Nat) (t : St) (n : Nat) (id id' : Int) (kn : List (Int × Int)) : oTM2 q t n id id' kn = oTJ q ⟨fun i => bif Nat.beq i n then ptrV id else setR (isMd id') t.r t.r i, t.s, kn⟩ 0 := by
  have : (fun i => bif Nat.beq i n then vc (ptrV id) else vc (setR (isMd id') t.r t.r i)) = fun i => vc (bif Nat.beq i n then ptrV id else setR (isMd id') t.r t.r i) := funext fun i => by
    cases Nat.beq i n <;> rfl
  unfold oTM2 oTJ
  rw [this]
theorem evMade2 (a : St) (reg at1 : Int) : evFn Try.prog KSK LSM (regB Try.prog) 80 62 [stA a, .int .i64 reg, .int .i64 at1] ⟨0, []⟩ kTJ =
  (bif true && okL (kf a.kn) a.kn.length [] then bif chkI (stL a) != 0 then zTJ t0 2 else
    bif (bif false then true else decide (reg < 0)) then zTJ t0 2 else bif (bif false then true else decide (reg ≥ 10)) then zTJ t0 2 else bif (bif false then true else decide (at1 < 0)) then zTJ t0 2 else bif (bif false then true else decide (at1 ≥ 256)) then zTJ t0 2 else
    bif okL (kf a.kn) a.kn.length [] then bif decide (0 ≤ reg) then bif decide (reg < 10) then bif Nat.blt reg.toNat 10 then
      oTM2 3 a reg.toNat (IntKind.i64.wrap (1 + at1)) (IntKind.i64.wrap (1 + at1)) (frgF (kl (kf a.kn) a.kn.length []) (IntKind.i64.wrap (1 + at1))).1
    else none else none else none else none
  else none) := by kernel_rfl
theorem okMade2S (a : St) (reg at1 : Int) : SoundFn Try.prog 62 [stA a, .int .i64 reg, .int .i64 at1] ⟨0, []⟩ (oSt (mdeR a reg at1).1 (mdeR a reg at1).2) (oAS (mdeR a reg at1).1) := by
  have hev := evMade2 a reg at1
  simp only [oTM2_eq, okL_kf, kl_kf, stL_eq, chkI_ne, Bool.and_self, Bool.true_and, cond_true, cond_false] at hev
  unfold mdeR inB
  cases ha : chkB a with
  | false =>
    simp only [ha, Bool.not_false, cond_true] at hev
    exact .zTJ KSK_ok LSM_ok rfl rfl hev
  | true =>
    simp only [ha, Bool.not_true, cond_false, Bool.true_and] at hev ⊢
    by_cases h1 : reg < 0
    · rw [decide_eq_true h1] at hev
      rw [decide_eq_false (show ¬ 0 ≤ reg by omega)]
      exact .zTJ KSK_ok LSM_ok rfl rfl hev
    by_cases h2 : reg ≥ 10
    · rw [decide_eq_false h1, decide_eq_true h2] at hev
      rw [decide_eq_true (show 0 ≤ reg by omega), decide_eq_false (show ¬ reg < 10 by omega)]
      exact .zTJ KSK_ok LSM_ok rfl rfl hev
    by_cases h3 : at1 < 0
    · rw [decide_eq_false h1, decide_eq_false h2, decide_eq_true h3] at hev
      rw [decide_eq_true (show 0 ≤ reg by omega), decide_eq_true (show reg < 10 by omega), decide_eq_false (show ¬ 0 ≤ at1 by omega)]
      exact .zTJ KSK_ok LSM_ok rfl rfl hev
    by_cases h4 : at1 ≥ 256
    · rw [decide_eq_false h1, decide_eq_false h2, decide_eq_false h3, decide_eq_true h4] at hev
      rw [decide_eq_true (show 0 ≤ reg by omega), decide_eq_true (show reg < 10 by omega), decide_eq_true (show 0 ≤ at1 by omega), decide_eq_false (show ¬ at1 < 256 by omega)]
      exact .zTJ KSK_ok LSM_ok rfl rfl hev
    have hb : Nat.blt reg.toNat 10 = true := by simp; omega
    have hw : IntKind.i64.wrap (1 + at1) = 1 + at1 := wrap_in64 (by omega) (by omega)
    rw [decide_eq_false h1, decide_eq_false h2, decide_eq_false h3, decide_eq_false h4, decide_eq_true (show 0 ≤ reg by omega), decide_eq_true (show reg < 10 by omega), hb, hw] at hev
    rw [decide_eq_true (show 0 ≤ reg by omega), decide_eq_true (show reg < 10 by omega), decide_eq_true (show 0 ≤ at1 by omega), decide_eq_true (show at1 < 256 by omega)]
    exact .oTJ KSK_ok LSM_ok rfl hev
theorem okMade2 : FnOk Try.prog 62 fMde := fMde_ok okMade2S
def hasSM : FuncId → Bool := addHas 58 (addHas 60 (addHas 62 hasSK))
def specSM : SpecT := addS 58 (fS1 movR) (addS 60 (fS1 calR) (addS 62 fMde specSK))
theorem specSM_ok : SpecOk Try.prog hasSM specSM := addS_ok okMoved2 (addS_ok okCalled2 (addS_ok okMade2 specSK_ok))
def KSM : KT := orK (specK hasSM specSM) KXJ
theorem KSM_ok : KOk Try.prog KSM := orK_ok (specK_ok specSM_ok) KXJ_ok
end Go.Sv
namespace Go.Sv
open Go.RowKit Go.Proofs
set_option linter.unusedSimpArgs false
set_option linter.unusedVariables false
def boxI (q : Nat) (t : St) : Row := .cells [regA t.r, sltA t.s, .slc q [] 0 0 2 t.kn.length (t.kn.length + 4)] true false
def mZ (s : St) : List (Nat × Row) := [(0, boxA s), (1, rSpa s.kn s.kn.length), (2, boxI 1 s)]
def lZ (v6 : AV) (reg at1 j : Int) : List (Nat × AV) := [(6, v6), (3, .ptr 0 [] 0), (7, .ptr 2 [] 0), (1, .int .i64 reg), (2, .int .i64 at1), (16, .int .i64 j)]
def nZ (reg at1 j : Int) : Env := ((((((Env.mk 7).set 6 .any).set 3 (.ptr 0 [] 0)).set 7 (.ptr 2 [] 0)).set 1 (.int .i64 reg)).set 2 (.int .i64 at1)).set 16 (.int .i64 (IntKind.i64.wrap (j + 1)))
theorem evZ (s : St) (reg at1 j : Int) : evCode Try.prog KSM L0 (regB Try.prog) 90 13 (loopOf Try.prog 13 0) (slots (lZ .any reg at1 j) (Env.mk 7)) ⟨11, mZ s⟩ (fun e E' st' => some (e, keepE E' [6, 3, 7, 1, 2, 16] (Env.mk 7), (mZ s).map (fun p => find st'.mem p.1))) =
  (bif decide (j < 11) then bif decide (j < 0) then bif (add0 0 s.kn.length).ble (s.kn.length + 4) then bif true && okL (kf (s.kn ++ marks)) s.kn.length [] then bif true && okL (kf s.kn) s.kn.length [] then bif true && (okL (kf (mdeR (St.mk (fun i => vOf (elt [] (fun i => vc (s.r i)) i)) (fun i => sOf (elt [] (fun i => sc (s.s i)) i)) (kl (kf (s.kn ++ marks)) s.kn.length [])) reg at1).fst.kn) (mdeR (St.mk (fun i => vOf (elt [] (fun i => vc (s.r i)) i)) (fun i => sOf (elt [] (fun i => sc (s.s i)) i)) (kl (kf (s.kn ++ marks)) s.kn.length [])) reg at1).fst.kn.length [] && (decide ((mdeR (St.mk (fun i => vOf (elt [] (fun i => vc (s.r i)) i)) (fun i => sOf (elt [] (fun i => sc (s.s i)) i)) (kl (kf (s.kn ++ marks)) s.kn.length [])) reg at1).fst.kn.length = (mdeR (St.mk (fun i => vOf (elt [] (fun i => vc (s.r i)) i)) (fun i => sOf (elt [] (fun i => sc (s.s i)) i)) (kl (kf (s.kn ++ marks)) 
    s.kn.length [])) reg at1).fst.kn.length) && decide ((mdeR (St.mk (fun i => vOf (elt [] (fun i => vc (s.r i)) i)) (fun i => sOf (elt [] (fun i => sc (s.s i)) i)) (kl (kf (s.kn ++ marks)) s.kn.length [])) reg at1).fst.kn.length = (mdeR (St.mk (fun i => vOf (elt [] (fun i => vc (s.r i)) i)) (fun i => sOf (elt [] (fun i => sc (s.s i)) i)) (kl (kf (s.kn ++ marks)) s.kn.length [])) reg at1).fst.kn.length))) && (((mdeR (St.mk (fun i => vOf (elt [] (fun i => vc (s.r i)) i)) (fun i => sOf (elt [] (fun i => sc (s.s i)) i)) (kl (kf (s.kn ++ marks)) s.kn.length [])) reg at1).fst.kn.length + 6) * 16).ble 140737488355328 then bif (add0 0 (mdeR (stL s) reg at1).fst.kn.length).ble (mdeR (stL s) reg at1).fst.kn.length then bif true && okL (kf (mdeR (stL s) reg at1).fst.kn) (mdeR (stL s) reg at1).fst.kn.length [] then bif !((mdeR (St.mk (fun i => vOf (elt [] (fun i => vc (s.r i)) i)) (fun i => sOf (elt [] 
    (fun i => sc (s.s i)) i)) (kl (kf (s.kn ++ marks)) s.kn.length [])) reg at1).snd == (mdeR (stL s) reg at1).snd && samT (stL (mdeR (St.mk (fun i => vOf (elt [] (fun i => vc (s.r i)) i)) (fun i => sOf (elt [] (fun i => sc (s.s i)) i)) (kl (kf (s.kn ++ marks)) s.kn.length [])) reg at1).fst) (stL (mdeR (stL s) reg at1).fst)) then some (.ret, slots (lZ (.bool false) reg at1 j) (Env.mk 7), (mZ s).map fun p => some p.2) else some (.normal, nZ reg at1 j, (mZ s).map fun p => some p.2) else none else none else none else none else none else none else bif (add0 0 s.kn.length).ble (s.kn.length + 4) then bif true && okL (kf (s.kn ++ marks)) s.kn.length [] then bif true && okL (kf s.kn) s.kn.length [] then bif true && (okL (kf (mdeR (St.mk (fun i => vOf (elt [] (fun i => vc (s.r i)) i)) (fun i => sOf (elt [] (fun i => sc (s.s i)) i)) (kl (kf (s.kn ++ marks)) s.kn.length [])) j at1).fst.kn) (mdeR (St.mk 
    (fun i => vOf (elt [] (fun i => vc (s.r i)) i)) (fun i => sOf (elt [] (fun i => sc (s.s i)) i)) (kl (kf (s.kn ++ marks)) s.kn.length [])) j at1).fst.kn.length [] && (decide ((mdeR (St.mk (fun i => vOf (elt [] (fun i => vc (s.r i)) i)) (fun i => sOf (elt [] (fun i => sc (s.s i)) i)) (kl (kf (s.kn ++ marks)) s.kn.length [])) j at1).fst.kn.length = (mdeR (St.mk (fun i => vOf (elt [] (fun i => vc (s.r i)) i)) (fun i => sOf (elt [] (fun i => sc (s.s i)) i)) (kl (kf (s.kn ++ marks)) s.kn.length [])) j at1).fst.kn.length) && decide ((mdeR (St.mk (fun i => vOf (elt [] (fun i => vc (s.r i)) i)) (fun i => sOf (elt [] (fun i => sc (s.s i)) i)) (kl (kf (s.kn ++ marks)) s.kn.length [])) j at1).fst.kn.length = (mdeR (St.mk (fun i => vOf (elt [] (fun i => vc (s.r i)) i)) (fun i => sOf (elt [] (fun i => sc (s.s i)) i)) (kl (kf (s.kn ++ marks)) s.kn.length [])) j at1).fst.kn.length))) && (((mdeR (St.mk 
    (fun i => vOf (elt [] (fun i => vc (s.r i)) i)) (fun i => sOf (elt [] (fun i => sc (s.s i)) i)) (kl (kf (s.kn ++ marks)) s.kn.length [])) j at1).fst.kn.length + 6) * 16).ble 140737488355328 then bif (add0 0 (mdeR (stL s) j at1).fst.kn.length).ble (mdeR (stL s) j at1).fst.kn.length then bif true && okL (kf (mdeR (stL s) j at1).fst.kn) (mdeR (stL s) j at1).fst.kn.length [] then bif !((mdeR (St.mk (fun i => vOf (elt [] (fun i => vc (s.r i)) i)) (fun i => sOf (elt [] (fun i => sc (s.s i)) i)) (kl (kf (s.kn ++ marks)) s.kn.length [])) j at1).snd == (mdeR (stL s) j at1).snd && samT (stL (mdeR (St.mk (fun i => vOf (elt [] (fun i => vc (s.r i)) i)) (fun i => sOf (elt [] (fun i => sc (s.s i)) i)) (kl (kf (s.kn ++ marks)) s.kn.length [])) j at1).fst) (stL (mdeR (stL s) j at1).fst)) then some (.ret, slots (lZ (.bool false) reg at1 j) (Env.mk 7), (mZ s).map fun p => some p.2) else some (.normal, nZ 
    reg at1 j, (mZ s).map fun p => some p.2) else none else none else none else none else none else none else some (.exit 0, slots (lZ .any reg at1 j) (Env.mk 7), (mZ s).map fun p => some p.2)) := by kernel_rfl
theorem stN_eq (r : Nat → Vw) (s : Nat → Int × Int) (k : List (Int × Int)) : St.mk (fun i => vOf (elt [] (fun i => vc (r i)) i)) (fun i => sOf (elt [] (fun i => sc (s i)) i)) k = ⟨r, s, k⟩ := rfl
theorem stE_eta (t : St) : (⟨t.r, t.s, t.kn⟩ : St) = t := rfl
theorem mdeR_len (a : St) (reg at1 : Int) : (mdeR a reg at1).1.kn.length ≤ 257 := by
  unfold mdeR
  cases ha : chkB a with
  | false => exact Nat.zero_le _
  | true =>
    cases hi : inB reg at1 with
    | false => exact Nat.zero_le _
    | true =>
      have hid : idB (1 + at1) = true := by
        simp only [inB, Bool.and_eq_true, decide_eq_true_eq] at hi
        simp [idB]; omega
      exact (chkE_zero (mdeT_chk (reg := reg.toNat) (chkB_iff.1 ha) hid).kn).1
theorem roundZ {s : St} {reg at1 j : Int} (hz : s.kn.length * 16 ≤ reachBytes) (hj : j < 11) : evCode Try.prog KSM L0 (regB Try.prog) 90 13 (loopOf Try.prog 13 0) (slots (lZ .any reg at1 j) (Env.mk 7)) ⟨11, mZ s⟩ (fun e E' st' => some (e, keepE E' [6, 3, 7, 1, 2, 16] (Env.mk 7), (mZ s).map (fun p => find st'.mem p.1))) =
    some (.normal, nZ reg at1 j, (mZ s).map fun p => some p.2) := by
  rw [evZ]
  obtain ⟨a1, a2, a3⟩ := sized_facts hz
  have l : ∀ r, Nat.ble (((mdeR s r at1).1.kn.length + 6) * 16) 140737488355328 = true := fun r => (len_lim (mdeR_len s r at1)).2
  have hd : decide (j < 11) = true := decide_eq_true hj
  simp only [stL_eq, stN_eq, stE_eta, okL_kf, kl_kf, kl_app, a1, a2, a3, l, hd, add0_zero, ble_self, ble_add4, beq_self_eq_true, samT_self, decide_true, Bool.and_self, Bool.true_and, Bool.not_true, cond_true, cond_false]
  cases decide (j < 0) <;> rfl
def fLoopZ (R : Type) (E : Env) (st : AS) : Option ((EK → Env → AS → Option R) → Option R) :=
  some fun k => match E.get 3, E.get 7, E.get 1, E.get 2, E.get 16, st.mem with
  | .ptr 0 [] 0, .ptr 2 [] 0, .int .i64 reg, .int .i64 at1, .int .i64 j, (0, ra) :: (1, .cells [.arr 2 N fk uk] true tip) :: (2, .cells [.arr 5 10 f us, .arr 2 8 g vs, .slc 1 [] 0 0 2 n c] true false) :: _ =>
    bif (Nat.beq st.next 11 && decide (j = -1)) && ((okA vOk 10 f us && okA sOk 8 g vs) && okL fk N uk) then rowK ra fun s =>
      bif ((decide (n = s.kn.length) && decide (c = s.kn.length + 4)) && decide (N = s.kn.length + 4)) && (samT ⟨fun i => vOf (elt us f i), fun i => sOf (elt vs g i), s.kn⟩ s && eqL (kl fk N uk) (s.kn ++ marks)) && Nat.ble (s.kn.length * 16) reachBytes then
        k .normal (slots [(3, .ptr 0 [] 0), (7, .ptr 2 [] 0)] (Env.mk 7)) ⟨11, mZ s⟩ else none else none
  | _, _, _, _, _, _ => none
theorem gZ (v6 : AV) (reg at1 j : Int) : (slots (lZ v6 reg at1 j) (Env.mk 7)).get 3 = .ptr 0 [] 0 ∧ (slots (lZ v6 reg at1 j) (Env.mk 7)).get 7 = .ptr 2 [] 0 := by
  refine ⟨?_, ?_⟩ <;> kernel_rfl
theorem okLoopZ : LoopFn Try.prog 13 0 fLoopZ := fun R E st G h hs nb hnb k y hk => by
  unfold fLoopZ at h
  simp only [Option.some.injEq] at h
  subst h
  dsimp only at hk
  split at hk
  · rename_i reg at1 j ra N fk uk tip f us g vs n c rest g3 g7 g1 g2 g16 hm
    obtain ⟨hc, hkA⟩ := cond_some hk
    clear hk
    simp only [Bool.and_eq_true, decide_eq_true_eq] at hc
    obtain ⟨⟨c1, c3⟩, ⟨c4, c5⟩, c6⟩ := hc
    have d1 := Nat.eq_of_beq_eq_true c1
    clear c1
    obtain ⟨next, mem⟩ := st
    dsimp only at hm d1
    subst hm; subst d1; subst c3
    obtain ⟨s, hkB, os, hsr⟩ := rowK_ok hkA
    clear hkA
    obtain ⟨hc2, hkC⟩ := cond_some hkB
    clear hkB
    simp only [Bool.and_eq_true, decide_eq_true_eq] at hc2
    obtain ⟨⟨⟨⟨e1, e2⟩, e3⟩, e4, e5⟩, e6⟩ := hc2
    subst e1; subst e2; subst e3
    have hz := Nat.le_of_ble_eq_true e6
    have q := samT_iff.1 e4
    have hr : ∀ i, i < 10 → vc (s.r i) = elt us f i := fun i hi => by rw [← q.r i hi]; exact vc_of (okA_at c4 hi)
    have hs2 : ∀ i, i < 8 → sc (s.s i) = elt vs g i := fun i hi => by rw [← q.s i hi]; exact sc_of (okA_at c5 hi)
    have hlen : (kl fk (s.kn.length + 4) uk).length = s.kn.length + 4 := kl_length ..
    have hkn : kl fk (s.kn.length + 4) uk = s.kn ++ marks := (eqL_eq (by rw [hlen]; simp [marks])).1 e5
    have hl := loop_allC (nb := nb) (q := 11) (d := 7) (fuel := 90) (ts := [6, 3, 7, 1, 2, 16]) KSM_ok l0_ok (g := 13) (id := 0) 12 (fun _ => true) (fun i => lZ .any reg at1 (Int.ofNat i - 1)) (fun i => lZ .any reg at1 (Int.ofNat i - 1)) (mZ s) [(3, .ptr 0 [] 0), (7, .ptr 2 [] 0)] [] hs hnb (fun _ => rfl) (fun _ => rfl) rfl (fun p hp => by
      obtain ⟨w1, w2⟩ := gZ .any reg at1 (Int.ofNat 12 - 1)
      simp only [List.mem_cons, List.not_mem_nil, or_false] at hp
      rcases hp with rfl | rfl
      · exact w1
      · exact w2) (fun i p hp => by cases hp) (fun i hi => by
      have h1 := roundZ (s := s) (reg := reg) (at1 := at1) (j := Int.ofNat i - 1) hz (by simp; omega)
      have h2 : nZ reg at1 (Int.ofNat i - 1) = slots (lZ .any reg at1 (Int.ofNat (i + 1) - 1)) (Env.mk 7) := by
        have e : IntKind.i64.wrap (Int.ofNat i - 1 + 1) = Int.ofNat (i + 1) - 1 := by
          rw [wrap_in64 (by simp; try omega) (by simp; try omega)]; simp
        unfold nZ
        rw [e]; rfl
      rw [h2] at h1
      exact h1) (evZ s reg at1 (Int.ofNat 12 - 1))
    have hall : (List.range 12).all (fun _ => true) = true := rfl
    rw [hall] at hl
    have hw : Weak nb (szOf Try.prog 13) E ⟨11, (0, ra) :: (1, .cells [.arr 2 (s.kn.length + 4) fk uk] true tip) :: (2, .cells [.arr 5 10 f us, .arr 2 8 g vs, .slc 1 [] 0 0 2 s.kn.length (s.kn.length + 4)] true false) :: rest⟩ (slots (lZ .any reg at1 (Int.ofNat 0 - 1)) (Env.mk 7)) ⟨11, mZ s⟩ := weak_pull _root_.id (fun _ _ => rfl) hnb (fun p hp κ z hz => by
      simp only [lZ, List.mem_cons, List.not_mem_nil, or_false] at hp
      rcases hp with rfl | rfl | rfl | rfl | rfl | rfl
      · exact vrel_any _ _
      · dsimp only at hz; rw [g3] at hz; exact VRel.pull_ptr rfl (by dsimp only; omega) hz
      · dsimp only at hz; rw [g7] at hz; exact VRel.pull_ptr rfl (by dsimp only; omega) hz
      · dsimp only at hz; rw [g1] at hz; exact VRel.pull rfl hz
      · dsimp only at hz; rw [g2] at hz; exact VRel.pull rfl hz
      · dsimp only at hz; rw [g16] at hz; exact VRel.pull rfl hz) (fun q r2 hf => by
      have hp := find_mem _ _ _ hf
      simp only [mZ, List.mem_cons, List.not_mem_nil, or_false, Prod.mk.injEq] at hp
      rcases hp with ⟨rfl, rfl⟩ | ⟨rfl, rfl⟩ | ⟨rfl, rfl⟩
      · exact ⟨_, rfl, hsr _ _ _ (by dsimp only; omega), fun _ => os⟩
      · exact ⟨_, rfl, RowLe.arr (by dsimp only; omega) (fun h => by cases h) (fun i hi => by rw [← hkn]; exact kf_kl c6 hi), fun _ => rfl⟩
      · exact ⟨_, rfl, RowLe.toldC (by dsimp only; omega) fun κ zs hz => CRel.arr_to (κ.pull_nl _ _) hr (fun _ h => CRel.arr_to (κ.pull_nl _ _) hs2 (fun _ h => CRel.last_to (fun y hy => VRel.pull_slc rfl (by dsimp only; omega) hy) rfl h) h) hz, fun _ => rfl⟩) (fun _ _ _ _ _ _ h => h)
    exact ⟨.exit 0, _, _, hkC, Nat.le_refl _, hl.weak hw⟩
  · cases hk
def LSN : LT := addL 13 0 fLoopZ L0
theorem LSN_ok : LOk Try.prog LSN := addL_ok sprog_ok.1 (by kernel_rfl) okLoopZ l0_ok
end Go.Sv
