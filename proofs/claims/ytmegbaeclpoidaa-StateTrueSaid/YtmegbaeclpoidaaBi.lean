/- The evaluator and the contracts that the walk leans on, part Bi: CF, P3. -/
import Derived.Test.YtmegbaeclpoidaaBh
namespace Go.Sv
open Go.RowKit Go.Proofs
/-- What is asked of one number. -/
def tstJ (as1 ms ls X Y : List (Int × Int)) (id : Int) (i : Nat) : Bool :=
  bytF (Int.ofNat i) as1 == minZ (bytF (Int.ofNat i) Y) (bytF (Int.ofNat i) X) && (Int.ofNat i == id || (bytF (Int.ofNat i) ms == bytF (Int.ofNat i) as1 && bytF (Int.ofNat i) ls == bytF (Int.ofNat i) as1))
def lTJ (as1 ms ls X Y : List (Int × Int)) (id : Int) (i : Nat) : List (Nat × AV) := [(7, .slc 0 [] 0 0 2 as1.length as1.length), (11, .slc 2 [] 0 0 2 ms.length ms.length), (13, .slc 3 [] 0 0 2 ls.length ls.length), (0, .lst 2 (kf X) X.length []), (1, .lst 2 (kf Y) Y.length []), (2, .int .i64 id), (15, .int .i64 (Int.ofNat i))]
def lTJ0 (as1 ms ls : List (Int × Int)) (id : Int) : List (Nat × AV) := [(7, .slc 0 [] 0 0 2 as1.length as1.length), (11, .slc 2 [] 0 0 2 ms.length ms.length), (13, .slc 3 [] 0 0 2 ls.length ls.length), (2, .int .i64 id)]
def nTJ (as1 ms ls X Y : List (Int × Int)) (id : Int) (i : Nat) : Env := (((((((Env.mk 8).set 7 (.slc 0 [] 0 0 2 as1.length as1.length)).set 11 (.slc 2 [] 0 0 2 ms.length ms.length)).set 13 (.slc 3 [] 0 0 2 ls.length ls.length)).set 0 (.lst 2 (kf X) X.length [])).set 1 (.lst 2 (kf Y) Y.length [])).set 2 (.int .i64 id)).set 15 (.int .i64 (IntKind.i64.wrap (Int.ofNat (i + 1))))
theorem gTJ (as1 ms ls X Y : List (Int × Int)) (id : Int) (i : Nat) : let E := slots (lTJ as1 ms ls X Y id i) (Env.mk 8)
    E.get 7 = .slc 0 [] 0 0 2 as1.length as1.length ∧ E.get 11 = .slc 2 [] 0 0 2 ms.length ms.length ∧ E.get 13 = .slc 3 [] 0 0 2 ls.length ls.length ∧ E.get 2 = .int .i64 id := ⟨by kernel_rfl, by kernel_rfl, by kernel_rfl, by kernel_rfl⟩
def mTJ (as1 ms ls : List (Int × Int)) : List (Nat × Row) := [(0, rOf as1), (2, rOf ms), (3, rOf ls)]
theorem evTJ (as1 ms ls X Y : List (Int × Int)) (id : Int) (i : Nat) : evCode Try.prog KCE L0 (regB Try.prog) 60 8 (loopOf Try.prog 8 0) (slots (lTJ as1 ms ls X Y id i) (Env.mk 8)) ⟨4, mTJ as1 ms ls⟩
    (fun e E' st' => some (e, keepE E' [7, 11, 13, 0, 1, 2, 15] (Env.mk 8), (mTJ as1 ms ls).map (fun p => find st'.mem p.1))) =
  (bif decide (Int.ofNat i ≤ 256) then bif Nat.ble as1.length as1.length then bif okL (kf as1) as1.length [] && Nat.ble as1.length LIM then bif okL (kf X) X.length [] && Nat.ble X.length LIM then bif okL (kf Y) Y.length [] && Nat.ble Y.length LIM then
    bif bytF (Int.ofNat i) (kl (kf as1) as1.length []) != minZ (bytF (Int.ofNat i) (kl (kf Y) Y.length [])) (bytF (Int.ofNat i) (kl (kf X) X.length [])) then some (.ret, slots (lTJ as1 ms ls X Y id i) (Env.mk 8), (mTJ as1 ms ls).map (fun p => some p.2)) else
    bif Int.ofNat i != id then bif Nat.ble ms.length ms.length then bif okL (kf ms) ms.length [] && Nat.ble ms.length LIM then
      bif bytF (Int.ofNat i) (kl (kf ms) ms.length []) != bytF (Int.ofNat i) (kl (kf as1) as1.length []) then some (.ret, slots (lTJ as1 ms ls X Y id i) (Env.mk 8), (mTJ as1 ms ls).map (fun p => some p.2)) else
      bif Nat.ble ls.length ls.length then bif okL (kf ls) ls.length [] && Nat.ble ls.length LIM then
        bif (bif false then true else bif true then (bif false then true else bytF (Int.ofNat i) (kl (kf ls) ls.length []) != bytF (Int.ofNat i) (kl (kf as1) as1.length [])) else false) then some (.ret, slots (lTJ as1 ms ls X Y id i) (Env.mk 8), (mTJ as1 ms ls).map (fun p => some p.2)) else
        some (.normal, nTJ as1 ms ls X Y id i, (mTJ as1 ms ls).map (fun p => some p.2))
      else none else none
    else none else none
    else some (.normal, nTJ as1 ms ls X Y id i, (mTJ as1 ms ls).map (fun p => some p.2))
  else none else none else none else none else some (.exit 0, slots (lTJ as1 ms ls X Y id i) (Env.mk 8), (mTJ as1 ms ls).map (fun p => some p.2))) := by kernel_rfl
theorem ne_of_beq {a b : Int} (h : (a == b) = true) : (a != b) = false := by simp only [bne, h, Bool.not_true]
theorem evTJ1 (as1 ms ls X Y : List (Int × Int)) (id : Int) (i : Nat) (hi : i < 257) (ha : as1.length ≤ 1000) (hm : ms.length ≤ 1000) (hl : ls.length ≤ 1000) (hx : X.length ≤ 1000) (hy : Y.length ≤ 1000) (ht : tstJ as1 ms ls X Y id i = true) :
    evCode Try.prog KCE L0 (regB Try.prog) 60 8 (loopOf Try.prog 8 0) (slots (lTJ as1 ms ls X Y id i) (Env.mk 8)) ⟨4, mTJ as1 ms ls⟩
    (fun e E' st' => some (e, keepE E' [7, 11, 13, 0, 1, 2, 15] (Env.mk 8), (mTJ as1 ms ls).map (fun p => find st'.mem p.1))) = some (.normal, slots (lTJ as1 ms ls X Y id (i + 1)) (Env.mk 8), (mTJ as1 ms ls).map (fun p => some p.2)) := by
  rw [evTJ]
  have hn : nTJ as1 ms ls X Y id i = slots (lTJ as1 ms ls X Y id (i + 1)) (Env.mk 8) := by
    unfold nTJ
    rw [wrapNat (show i < 9223372036854775807 by omega)]; rfl
  have hd : decide (Int.ofNat i ≤ 256) = true := decide_eq_true (by simp; omega)
  have b : ∀ n : Nat, Nat.ble n n = true := fun n => by simp
  have c : ∀ n : Nat, n ≤ 1000 → Nat.ble n LIM = true := fun n h => by unfold LIM; simp; omega
  simp only [tstJ, Bool.and_eq_true, Bool.or_eq_true] at ht
  rw [hn, hd, b, b, b, c _ ha, c _ hm, c _ hl, c _ hx, c _ hy, okL_kf, okL_kf, okL_kf, okL_kf, okL_kf, kl_kf, kl_kf, kl_kf, kl_kf, kl_kf, ne_of_beq ht.1]
  simp only [Bool.and_self, cond_true, cond_false]
  rcases ht.2 with h | ⟨h1, h2⟩
  · rw [ne_of_beq h, cond_false]
  · rw [ne_of_beq h1, ne_of_beq h2]
    cases (Int.ofNat i != id) <;> rfl
def stTJ (_ : Unit) (_ : Nat) : Unit ⊕ Unit := .inl ()
theorem stTJ_fold : ∀ xs : List Nat, foldX stTJ () xs = .inl ()
  | [] => rfl
  | _ :: r => stTJ_fold r
theorem loopTJ (as1 ms ls X Y : List (Int × Int)) (id : Int) (ha : as1.length ≤ 1000) (hm : ms.length ≤ 1000) (hl : ls.length ≤ 1000) (hx : X.length ≤ 1000) (hy : Y.length ≤ 1000) (ht : ∀ i, i < 257 → tstJ as1 ms ls X Y id i = true) {nb : Nat} (hnb : nb ≤ 4) (hs : SubOk Try.prog 8 (loopOf Try.prog 8 0)) :
    LoopOk Try.prog nb (szOf Try.prog 8) (loopOf Try.prog 8 0) (slots (lTJ as1 ms ls X Y id 0) (Env.mk 8)) ⟨4, mTJ as1 ms ls⟩ (.exit 0) (slots (lTJ0 as1 ms ls id) (Env.mk 8)) ⟨4, mTJ as1 ms ls⟩ := by
  have hr : (List.range 257).length = 257 := List.length_range
  have key := loop_fold (P := Try.prog) (nb := nb) (sz := szOf Try.prog 8) (b := loopOf Try.prog 8 0) stTJ (List.range 257) 0 (fun _ _ => True) (fun i _ => (slots (lTJ as1 ms ls X Y id i) (Env.mk 8), ⟨4, mTJ as1 ms ls⟩)) (fun _ => ⟨.exit 0, slots (lTJ0 as1 ms ls id) (Env.mk 8), ⟨4, mTJ as1 ms ls⟩⟩) (fun _ => ⟨.ret, Env.mk 8, ⟨0, []⟩⟩) (fun i _ _ hi => ?_) (fun _ _ => ?_) (fun _ h => by cases h) (fun _ h => by cases h) (List.range 257) 0 () trivial rfl (Nat.zero_le _)
  · rw [stTJ_fold] at key; exact key
  · rw [hr] at hi
    exact ⟨trivial, code_rows sprog_ok.1 sprog_ok.2 KCE_ok l0_ok (fuel := 60) (ts := [7, 11, 13, 0, 1, 2, 15]) hs hnb hnb rfl rfl (evTJ1 as1 ms ls X Y id i hi ha hm hl hx hy (ht i hi))⟩
  · have hev := evTJ as1 ms ls X Y id (List.range 257).length
    have hd : decide (Int.ofNat (List.range 257).length ≤ 256) = false := by rw [hr]; rfl
    rw [hd, cond_false] at hev
    refine (code_rows sprog_ok.1 sprog_ok.2 KCE_ok l0_ok (fuel := 60) (ts := [7, 11, 13, 0, 1, 2, 15]) hs hnb hnb rfl rfl hev).less (less_slots fun p hp => ?_)
    obtain ⟨g7, g11, g13, g2⟩ := gTJ as1 ms ls X Y id (List.range 257).length
    simp only [lTJ0, List.mem_cons, List.not_mem_nil, or_false] at hp
    rcases hp with rfl | rfl | rfl | rfl
    · exact g7
    · exact g11
    · exact g13
    · exact g2
def fLoopTJ (R : Type) (E : Env) (st : AS) : Option ((EK → Env → AS → Option R) → Option R) :=
  match E.get 7, E.get 11, E.get 13, E.get 0, E.get 1, E.get 2, E.get 15 with
  | .slc 0 [] 0 0 2 n0 c0, .slc 2 [] 0 0 2 n2 c2, .slc 3 [] 0 0 2 n3 c3, .lst 2 f n us, .lst 2 g m vs, .int .i64 id, .int .i64 i => match st.mem with
    | [(0, .cells [.arr 2 N0 f0 u0] true true), (1, _), (2, .cells [.arr 2 N2 f2 u2] true true), (3, .cells [.arr 2 N3 f3 u3] true true)] => some fun k =>
      bif (Nat.beq st.next 4 && decide (i = 0)) && ((decide (n0 = c0) && decide (n0 = N0)) && ((decide (n2 = c2) && decide (n2 = N2)) && (decide (n3 = c3) && decide (n3 = N3)))) &&
        ((okL f n us && okL g m vs) && (okL f0 n0 u0 && (okL f2 n2 u2 && okL f3 n3 u3))) && ((Nat.ble n0 1000 && (Nat.ble n2 1000 && Nat.ble n3 1000)) && (Nat.ble n 1000 && Nat.ble m 1000)) &&
        (List.range 257).all (tstJ (kl f0 n0 u0) (kl f2 n2 u2) (kl f3 n3 u3) (kl f n us) (kl g m vs) id) then
        k .normal (slots (lTJ0 (kl f0 n0 u0) (kl f2 n2 u2) (kl f3 n3 u3) id) (Env.mk 8)) ⟨4, mTJ (kl f0 n0 u0) (kl f2 n2 u2) (kl f3 n3 u3)⟩ else none
    | _ => none
  | _, _, _, _, _, _, _ => none
theorem okLoopTJ : LoopFn Try.prog 8 0 fLoopTJ := fun R E st G h hs nb hnb k r hk => by
  unfold fLoopTJ at h
  split at h
  · rename_i n0 c0 n2 c2 n3 c3 f n us g m vs id i g7 g11 g13 g0 g1 g2 g15
    split at h
    · rename_i N0 f0 u0 r1 N2 f2 u2 N3 f3 u3 hm
      simp only [Option.some.injEq] at h
      subst h
      obtain ⟨hc, hk1⟩ := cond_some hk
      clear hk
      simp only [Bool.and_eq_true, decide_eq_true_eq] at hc
      obtain ⟨⟨⟨⟨⟨c1, c2'⟩, ⟨d1, d2⟩, ⟨d3, d4⟩, d5, d6⟩, ⟨o1, o2⟩, o3, o4, o5⟩, ⟨l1, l2, l3⟩, l4, l5⟩, ht⟩ := hc
      have e1 := Nat.eq_of_beq_eq_true c1
      have m1 := Nat.le_of_ble_eq_true l1
      have m2 := Nat.le_of_ble_eq_true l2
      have m3 := Nat.le_of_ble_eq_true l3
      have m4 := Nat.le_of_ble_eq_true l4
      have m5 := Nat.le_of_ble_eq_true l5
      clear c1
      obtain ⟨next, mem⟩ := st
      dsimp only at hm e1
      subst hm; subst e1; subst c2'; subst d1; subst d2; subst d3; subst d4; subst d5; subst d6
      have hl := loopTJ (kl f0 n0 u0) (kl f2 n2 u2) (kl f3 n3 u3) (kl f n us) (kl g m vs) id (by rw [kl_length]; exact m1) (by rw [kl_length]; exact m2) (by rw [kl_length]; exact m3) (by rw [kl_length]; exact m4) (by rw [kl_length]; exact m5) (fun i hi => List.all_eq_true.1 ht i (List.mem_range.2 hi)) hnb hs
      have hw : Weak nb (szOf Try.prog 8) E ⟨4, [(0, .cells [.arr 2 n0 f0 u0] true true), (1, r1), (2, .cells [.arr 2 n2 f2 u2] true true), (3, .cells [.arr 2 n3 f3 u3] true true)]⟩ (slots (lTJ (kl f0 n0 u0) (kl f2 n2 u2) (kl f3 n3 u3) (kl f n us) (kl g m vs) id 0) (Env.mk 8)) ⟨4, mTJ (kl f0 n0 u0) (kl f2 n2 u2) (kl f3 n3 u3)⟩ := weak_pull _root_.id (fun _ _ => rfl) hnb (fun p hp κ y hy => by
        simp only [lTJ, kl_length, List.mem_cons, List.not_mem_nil, or_false] at hp
        rcases hp with rfl | rfl | rfl | rfl | rfl | rfl | rfl
        · dsimp only at hy; rw [g7] at hy; exact VRel.pull_slc rfl (by dsimp only; omega) hy
        · dsimp only at hy; rw [g11] at hy; exact VRel.pull_slc rfl (by dsimp only; omega) hy
        · dsimp only at hy; rw [g13] at hy; exact VRel.pull_slc rfl (by dsimp only; omega) hy
        · dsimp only at hy; rw [g0] at hy; exact VRel.pull rfl (hy.pairs o1)
        · dsimp only at hy; rw [g1] at hy; exact VRel.pull rfl (hy.pairs o2)
        · dsimp only at hy; rw [g2] at hy; exact VRel.pull rfl hy
        · dsimp only at hy; rw [g15] at hy; exact VRel.pull rfl hy) (fun q r2 hf => by
        have hp := find_mem _ _ _ hf
        simp only [mTJ, rOf, kl_length, List.mem_cons, List.not_mem_nil, or_false, Prod.mk.injEq] at hp
        rcases hp with ⟨rfl, rfl⟩ | ⟨rfl, rfl⟩ | ⟨rfl, rfl⟩
        · exact ⟨_, rfl, RowLe.arr (by dsimp only; omega) _root_.id (fun i hi => kf_kl o3 hi), fun _ => rfl⟩
        · exact ⟨_, rfl, RowLe.arr (by dsimp only; omega) _root_.id (fun i hi => kf_kl o4 hi), fun _ => rfl⟩
        · exact ⟨_, rfl, RowLe.arr (by dsimp only; omega) _root_.id (fun i hi => kf_kl o5 hi), fun _ => rfl⟩) (fun _ _ _ _ _ _ h => h)
      exact ⟨.exit 0, _, _, hk1, Nat.le_refl _, hl.weak hw⟩
    · cases h
  · cases h
def LCF : LT := addL 8 0 fLoopTJ LC9
theorem LCF_ok : LOk Try.prog LCF := addL_ok sprog_ok.1 (by kernel_rfl) okLoopTJ LC9_ok
end Go.Sv
namespace Go.Sv
open Go.RowKit Go.Proofs
theorem chk_of : ∀ (xs : List (Int × Int)) (last : Int), xs.Pairwise (fun a b => a.1 < b.1) → (∀ x ∈ xs, last < x.1 ∧ idB x.1 = true ∧ 1 ≤ x.2 ∧ x.2 ≤ 2048) → chkF last xs = true
  | [], _, _, _ => rfl
  | x :: r, last, hs, h => by
    have hs' := List.pairwise_cons.1 hs
    obtain ⟨h1, h2, h3, h4⟩ := h x (List.mem_cons_self ..)
    have ih := chk_of r x.1 hs'.2 fun y hy => by
      obtain ⟨_, g2, g3, g4⟩ := h y (List.mem_cons_of_mem _ hy)
      exact ⟨hs'.1 y hy, g2, g3, g4⟩
    have d1 : decide (x.1 ≤ last) = false := decide_eq_false (by omega)
    have d2 : decide (x.2 < 1) = false := decide_eq_false (by omega)
    have d3 : decide (x.2 > 2048) = false := decide_eq_false (by omega)
    simp only [chkF, d1, d2, d3, h2, ih, Bool.not_false, Bool.and_self]
theorem can_chkF {g : Int → Int} (hg : ∀ j, g j ≤ 2048) : chkF (-1) (canF g) = true := by
  refine chk_of _ _ (ofF_sorted _ _) fun x hx => ?_
  obtain ⟨h1, h2, h3⟩ := canF_mem.1 hx
  have hi := h1
  simp only [idB, Bool.and_eq_true, decide_eq_true_eq] at hi
  have := hg x.1
  exact ⟨by omega, h1, by omega, by omega⟩
theorem can_chkE {g : Int → Int} (hg : ∀ j, g j ≤ 2048) : chkE (canF g) = 0 := by
  unfold chkE
  have h1 : decide ((canF g).length > 257) = false := decide_eq_false (by have := canF_len g; omega)
  rw [h1, can_chkF hg]; rfl
theorem bytF_can (g : Int → Int) (j : Int) : bytF j (canF g) = if idB j = true ∧ g j > 0 then g j else 0 := by
  have hs : (canF g).Pairwise fun a b => a.1 < b.1 := ofF_sorted _ _
  by_cases h : idB j = true ∧ g j > 0
  · rw [if_pos h]
    have hm : (j, g j) ∈ canF g := canF_mem.2 ⟨h.1, rfl, h.2⟩
    exact bytF_of_mem (sorted_nodup hs) hm
  · rw [if_neg h]
    refine bytF_zero fun hk => h ?_
    obtain ⟨x, hx, rfl⟩ := List.mem_map.1 hk
    obtain ⟨h1, h2, h3⟩ := canF_mem.1 hx
    exact ⟨h1, by rw [← h2]; exact h3⟩
theorem bytF_le {X : List (Int × Int)} (h : chkF (-1) X = true) (j : Int) : 0 ≤ bytF j X ∧ bytF j X ≤ 2048 := by
  have hb := chk_book h
  refine ⟨bytF_nonneg hb j, ?_⟩
  by_cases hk : j ∈ X.map (·.1)
  · have := ((chk_sorted X _ h).1 _ (bytF_mem hk)).2.2.2
    exact this
  · rw [bytF_zero hk]; omega
theorem idB_ofNat {i : Nat} (h : i < 257) : idB (Int.ofNat i) = true := by simp [idB]; omega
theorem idB_mod (x : Int) : idB (x % 257) = true := by simp [idB]; omega
/-- What the law makes, where both lists may be. -/
theorem joins {X Y : List (Int × Int)} (hx : chkE X = 0) (hy : chkE Y = 0) (x : Int) :
    ∃ g m l : Int → Int, joiF X Y = (canF g, 0) ∧ joiF Y X = (canF g, 0) ∧ prvF (canF g) (x % 257) 5 = (canF m, 0) ∧ frgF (canF m) (x % 257) = (canF l, 0) ∧ chkE (canF g) = 0 ∧ chkE (canF m) = 0 ∧ chkE (canF l) = 0 ∧
      (∀ i, i < 257 → tstJ (canF g) (canF m) (canF l) X Y (x % 257) i = true) ∧ bytF (x % 257) (canF m) = max 5 (bytF (x % 257) (canF g)) ∧ bytF (x % 257) (canF l) = 0 := by
  have nx : (chkE X != 0) = false := by rw [hx]; rfl
  have ny : (chkE Y != 0) = false := by rw [hy]; rfl
  obtain ⟨_, x2⟩ := chkE_ok nx
  obtain ⟨_, y2⟩ := chkE_ok ny
  have hid := idB_mod x
  generalize x % 257 = id at hid ⊢
  let g : Int → Int := fun j => min (bytF j X) (bytF j Y)
  have g0 : ∀ j, 0 ≤ g j ∧ g j ≤ 2048 := fun j => by
    have := bytF_le x2 j
    have := bytF_le y2 j
    show 0 ≤ min _ _ ∧ min _ _ ≤ 2048
    omega
  have cg := can_chkE (g := g) fun j => (g0 j).2
  have bg : ∀ j, idB j = true → bytF j (canF g) = g j := fun j hj => by
    rw [bytF_can]
    have := g0 j
    by_cases h : g j > 0
    · rw [if_pos ⟨hj, h⟩]
    · rw [if_neg (fun h' => h h'.2)]; omega
  have bg2 : ∀ j, 0 ≤ bytF j (canF g) ∧ bytF j (canF g) ≤ 2048 := bytF_le (can_chkF fun j => (g0 j).2)
  let m : Int → Int := fun j => if j = id then max (bytF id (canF g)) (min 5 2048) else bytF j (canF g)
  have m0 : ∀ j, 0 ≤ m j ∧ m j ≤ 2048 := fun j => by
    have h1 := bg2 j
    have h2 := bg2 id
    show 0 ≤ (if j = id then max (bytF id (canF g)) (min 5 2048) else bytF j (canF g)) ∧ (if j = id then max (bytF id (canF g)) (min 5 2048) else bytF j (canF g)) ≤ 2048
    split <;> omega
  have cm := can_chkE (g := m) fun j => (m0 j).2
  have bm : ∀ j, idB j = true → bytF j (canF m) = m j := fun j hj => by
    rw [bytF_can]
    have := m0 j
    by_cases h : m j > 0
    · rw [if_pos ⟨hj, h⟩]
    · rw [if_neg (fun h' => h h'.2)]; omega
  have bm2 : ∀ j, 0 ≤ bytF j (canF m) ∧ bytF j (canF m) ≤ 2048 := bytF_le (can_chkF fun j => (m0 j).2)
  let l : Int → Int := fun j => if j = id then 0 else bytF j (canF m)
  have l0 : ∀ j, 0 ≤ l j ∧ l j ≤ 2048 := fun j => by
    have h1 := bm2 j
    show 0 ≤ (if j = id then 0 else bytF j (canF m)) ∧ (if j = id then 0 else bytF j (canF m)) ≤ 2048
    split <;> omega
  have cl := can_chkE (g := l) fun j => (l0 j).2
  have bl : ∀ j, idB j = true → bytF j (canF l) = l j := fun j hj => by
    rw [bytF_can]
    have := l0 j
    by_cases h : l j > 0
    · rw [if_pos ⟨hj, h⟩]
    · rw [if_neg (fun h' => h h'.2)]; omega
  have ng : (chkE (canF g) != 0) = false := by rw [cg]; rfl
  have nm : (chkE (canF m) != 0) = false := by rw [cm]; rfl
  refine ⟨g, m, l, ?_, ?_, ?_, ?_, cg, cm, cl, fun i hi => ?_, ?_, ?_⟩
  · simp only [joiF, nx, ny, cond_false]; rfl
  · simp only [joiF, nx, ny, cond_false]
    have : (fun j => min (bytF j Y) (bytF j X)) = g := funext fun j => Int.min_comm _ _
    rw [this]
  · have : (!idB id || decide ((5 : Int) < 0)) = false := by rw [hid]; rfl
    simp only [prvF, ng, this, cond_false]; rfl
  · have : (!idB id) = false := by rw [hid]; rfl
    simp only [frgF, nm, this, cond_false]; rfl
  · have hi' := idB_ofNat hi
    unfold tstJ
    rw [bg _ hi', bm _ hi', bl _ hi']
    have h1 : g (Int.ofNat i) = minZ (bytF (Int.ofNat i) Y) (bytF (Int.ofNat i) X) := by
      show min _ _ = _
      unfold minZ
      by_cases h : bytF (Int.ofNat i) Y < bytF (Int.ofNat i) X
      · rw [decide_eq_true h, cond_true]; omega
      · rw [decide_eq_false h, cond_false]; omega
    rw [h1]
    by_cases e : Int.ofNat i = id
    · have : (Int.ofNat i == id) = true := by rw [e]; simp
      rw [this]; simp
    · have h2 : m (Int.ofNat i) = g (Int.ofNat i) := by
        show (if Int.ofNat i = id then _ else _) = _
        rw [if_neg e, bg _ hi']
      have h3 : l (Int.ofNat i) = g (Int.ofNat i) := by
        show (if Int.ofNat i = id then _ else _) = _
        rw [if_neg e, bm _ hi', h2]
      rw [h2, h3, h1]
      simp
  · rw [bm _ hid]
    show (if id = id then max (bytF id (canF g)) (min 5 2048) else _) = _
    rw [if_pos rfl]; omega
  · rw [bl _ hid]
    show (if id = id then (0 : Int) else _) = 0
    rw [if_pos rfl]
end Go.Sv
