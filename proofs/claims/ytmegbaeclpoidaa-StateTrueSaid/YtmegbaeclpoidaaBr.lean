/- The evaluator and the contracts that the walk leans on, part Br: SA, SB, SC, SD, SE. -/
import Derived.Test.YtmegbaeclpoidaaBq
namespace Go.Sv
open Go.RowKit Go.Proofs
set_option linter.unusedSimpArgs false
set_option linter.unusedVariables false
/-! ### one list handed back -/
theorem SoundFn.one {g : FuncId} {vs : List AV} {q : Nat} {st1 : AS} {ys : List (Int × Int)} (h : SoundFn Try.prog g vs ⟨0, []⟩ (.slc q [] 0 0 2 ys.length ys.length) st1) {f : Nat → List AV} (hf : find st1.mem q = some (.cells [.arr 2 ys.length f []] true true)) (he : ∀ i, kf ys i = f i ∨ ys.length = 0) :
    SoundFn Try.prog g vs ⟨0, []⟩ (.slc 0 [] 0 0 2 ys.length ys.length) ⟨1, [(0, rOf ys)]⟩ :=
  h.pull (st2 := ⟨1, [(0, rOf ys)]⟩) (fun _ => q) (fun κ y hy => VRel.pull_slc rfl Nat.zero_lt_one hy) (fun n r2 hn => by
    have hp := List.mem_singleton.1 (find_mem _ _ _ hn)
    simp only [Prod.mk.injEq] at hp
    obtain ⟨rfl, rfl⟩ := hp
    exact ⟨_, hf, RowLe.arr (by dsimp only; omega) id (fun i hi => (he i).resolve_right (by omega)), id⟩) (fun n n' r r' h1 h2 _ => by
    have hp := List.mem_singleton.1 (find_mem _ _ _ h1)
    have hp' := List.mem_singleton.1 (find_mem _ _ _ h2)
    simp only [Prod.mk.injEq] at hp hp'
    rw [hp.1, hp'.1])
theorem SoundFn.oneNil {g : FuncId} {vs : List AV} {st1 : AS} (h : SoundFn Try.prog g vs ⟨0, []⟩ (.raw (.slice none 0 0)) st1) :
    SoundFn Try.prog g vs ⟨0, []⟩ (.slc 0 [] 0 0 2 0 0) ⟨1, [(0, rOf [])]⟩ := fun κ us w hl hR => by
  refine (h.forget rfl κ us w hl hR).mono fun en w' he => ?_
  obtain ⟨κ1, v', hle, rfl, hv, hR', hF⟩ := he
  have hn : κ1.loc 0 = none := hR'.fresh 0 (Nat.le_refl _)
  obtain ⟨h1, h2⟩ := hR'.mem.new0 hn (c := [.arr 2 0 (kf []) []]) arr_none true true
  have hM : (Mem.set (find []) 0 (some (.cells [.arr 2 0 (kf []) []] true true))) = find [(0, rOf [])] := by
    funext x
    simp only [find, Mem.set, rOf]
    by_cases e : x = 0
    · subst e; rfl
    · rw [if_neg e, beq_false (Ne.symm e)]; rfl
  change MRel _ (Mem.set (find []) 0 _) w' at h1
  change Fr κ1 (find []) w' _ (Mem.set (find []) 0 _) w' at h2
  rw [hM] at h1 h2
  refine ⟨κ1.at 0 none, v', ⟨fun n hn => by simp at hn, fun b cs h => hle.st b cs h, hle.gh, fun b s h => hle.sz b s h⟩, rfl, ?_, ⟨fun n hge => ?_, h1⟩, hF.trans h2⟩
  · cases hv with
    | raw _ hn' => cases hn'; exact .slc0 0 0 0 2 [] Kap.at_same .nil
  · rw [Kap.at_ne (by dsimp only at hge; omega)]; exact hR'.fresh n (Nat.zero_le _)
/-! ### slices.Clone -/
def kOne (v : AV) (st : AS) : Option (AV × Option Row) :=
  match v with
  | .slc q _ _ _ _ _ _ => some (v, find st.mem q)
  | _ => some (v, none)
theorem kOne_row {v : AV} {st : AS} {q n : Nat} {r : Row} (h : kOne v st = some (.slc q [] 0 0 2 n n, some r)) : v = .slc q [] 0 0 2 n n ∧ find st.mem q = some r := by
  unfold kOne at h
  split at h
  · simp only [Option.some.injEq, Prod.mk.injEq] at h
    obtain ⟨h1, h2⟩ := h
    cases h1
    exact ⟨rfl, h2⟩
  · simp at h
theorem kOne_nil {v : AV} {st : AS} (h : kOne v st = some (.raw (.slice none 0 0), none)) : v = .raw (.slice none 0 0) := by
  unfold kOne at h
  split at h
  · simp at h
  · simp only [Option.some.injEq, Prod.mk.injEq] at h
    exact h.1
def cat0 (f : Nat → List AV) (j : Nat) : List AV := bif Nat.blt j 0 then [] else f (j - 0)
theorem evClone (X : List (Int × Int)) (n : Nat) : evFn Try.prog KS9 L0 (regB Try.prog) 60 97 [.lst 2 (kf X) n []] ⟨0, []⟩ kOne =
  (bif Nat.blt 0 n then bif Nat.ble ((0 + n) * 16) LIM then some (.slc 1 [] 0 0 2 (0 + n) (0 + n), some (.cells [.arr 2 (0 + n) (cat0 (kf X)) []] true true)) else none else none) := by kernel_rfl
theorem evClone0 (a : Addr) (c : Nat) : evFn Try.prog KS9 L0 (regB Try.prog) 60 97 [.raw (.slice (some a) 0 c)] ⟨0, []⟩ kOne =
  some (.slc 1 [] 0 0 2 0 0, some (.cells [.arr 2 0 (cat0 fun _ => []) []] true true)) := by kernel_rfl
theorem evCloneN (c : Nat) : evFn Try.prog KS9 L0 (regB Try.prog) 60 97 [.raw (.slice none 0 c)] ⟨0, []⟩ kOne =
  some (.raw (.slice none 0 0), none) := by kernel_rfl
def fClone (R : Type) (vs : List AV) (k : AV → AS → Option R) : Option R :=
  match vs with
  | [.lst 2 f n us] => bif okL f n us && Nat.ble (n * 16) LIM then k (.slc 0 [] 0 0 2 (kl f n us).length (kl f n us).length) ⟨1, [(0, rOf (kl f n us))]⟩ else none
  | _ => none
theorem clone_row {vs : List AV} {n : Nat} {X : List (Int × Int)} {f : Nat → List AV} (ha : vs.all (fun x => !isArr x) = true) (hX : X.length = n) (he : ∀ i, kf X i = f i ∨ n = 0) (h : evFn Try.prog KS9 L0 (regB Try.prog) 60 97 vs ⟨0, []⟩ kOne = some (.slc 1 [] 0 0 2 n n, some (.cells [.arr 2 n f []] true true))) :
    SoundFn Try.prog 97 vs ⟨0, []⟩ (.slc 0 [] 0 0 2 X.length X.length) ⟨1, [(0, rOf X)]⟩ := by
  subst hX
  obtain ⟨v, st1, hk, _, hs⟩ := evFn_ok sprog_ok.1 KS9_ok l0_ok (regB_ok sprog_ok.1 sprog_ok.2) ha h
  obtain ⟨rfl, h2⟩ := kOne_row hk
  exact hs.one h2 he
theorem okClone : FnOk Try.prog 97 fClone := fun R vs k r h => by
  unfold fClone at h
  split at h
  · rename_i f n us
    obtain ⟨hc, h⟩ := cond_some h
    simp only [Bool.and_eq_true] at hc
    refine ⟨_, _, h, ⟨trivial, fun p hp => by rw [List.mem_singleton.1 hp]; exact flat_kf rfl⟩, fun κ zs w hl hR => ?_⟩
    have hlen : (kl f n us).length = n := kl_length ..
    by_cases hn : 0 < n
    · have hev := evClone (kl f n us) n
      have h1 : Nat.blt 0 n = true := by simpa using hn
      rw [h1, Nat.zero_add, hc.2] at hev
      exact (SoundFn.args (vs' := [.lst 2 (kf (kl f n us)) n []]) (clone_row rfl hlen (fun _ => .inl rfl) hev) fun κ ys hy => hy.last (fun y hy => hy.pairs hc.1) rfl) κ zs w hl hR
    · have h0 : n = 0 := by omega
      subst h0
      have he : kl f 0 us = [] := List.eq_nil_of_length_eq_zero hlen
      rw [he]
      obtain ⟨y, ys, rfl, r1, r2⟩ := hl.head rfl
      cases r2
      cases r1 with
      | lst _ _ b off cap _ _ cs _ _ _ _ _ _ _ => exact (clone_row (X := []) rfl rfl (fun _ => .inr rfl) (evClone0 ⟨b, off, none⟩ cap)) κ _ w (.raw _ .nil) hR
      | lst0 _ cap _ _ a _ =>
        cases a with
        | some a => exact (clone_row (X := []) rfl rfl (fun _ => .inr rfl) (evClone0 a cap)) κ _ w (.raw _ .nil) hR
        | none =>
          obtain ⟨v, st1, hk, _, hs⟩ := evFn_ok sprog_ok.1 KS9_ok l0_ok (regB_ok sprog_ok.1 sprog_ok.2) rfl (evCloneN cap)
          have := kOne_nil hk
          subst this
          exact hs.oneNil κ _ w (.raw _ .nil) hR
  · cases h
def hasSA : FuncId → Bool := addHas 97 hasS9
def specSA : SpecT := addS 97 fClone specS9
theorem specSA_ok : SpecOk Try.prog hasSA specSA := addS_ok okClone specS9_ok
def KSA : KT := orK (specK hasSA specSA) KX
theorem KSA_ok : KOk Try.prog KSA := orK_ok (specK_ok specSA_ok) KX_ok
end Go.Sv
namespace Go.Sv
open Go.RowKit Go.Proofs
set_option linter.unusedSimpArgs false
set_option linter.unusedVariables false

/-! ### loops that set registers -/
theorem loop_upd {g id d q nb : Nat} (len : Nat) (A : Nat → List (Nat × AV)) (ms : Nat → List (Nat × Row)) (fin : List (Nat × AV)) (mf : List (Nat × Row))
    (h1 : ∀ i, i < len → CodeOk Try.prog nb (szOf Try.prog g) (loopOf Try.prog g id) (slots (A i) (Env.mk d)) ⟨q, ms i⟩ .normal (slots (A (i + 1)) (Env.mk d)) ⟨q, ms (i + 1)⟩)
    (h2 : CodeOk Try.prog nb (szOf Try.prog g) (loopOf Try.prog g id) (slots (A len) (Env.mk d)) ⟨q, ms len⟩ (.exit id) (slots fin (Env.mk d)) ⟨q, mf⟩) :
    LoopOk Try.prog nb (szOf Try.prog g) (loopOf Try.prog g id) (slots (A 0) (Env.mk d)) ⟨q, ms 0⟩ (.exit id) (slots fin (Env.mk d)) ⟨q, mf⟩ := by
  have hr : (List.range len).length = len := List.length_range
  have key := loop_fold (P := Try.prog) (nb := nb) (sz := szOf Try.prog g) (b := loopOf Try.prog g id) stTJ (List.range len) 0 (fun _ _ => True) (fun i _ => (slots (A i) (Env.mk d), ⟨q, ms i⟩)) (fun _ => ⟨.exit id, slots fin (Env.mk d), ⟨q, mf⟩⟩) (fun _ => ⟨.ret, Env.mk d, ⟨0, []⟩⟩) (fun i _ _ hi => ?_) (fun _ _ => ?_) (fun _ h => by cases h) (fun _ h => by cases h) (List.range len) 0 () trivial rfl (Nat.zero_le _)
  · rw [stTJ_fold] at key; exact key
  · rw [hr] at hi
    exact ⟨trivial, h1 i hi⟩
  · rw [hr]; exact h2
/-- A round that turns one row's cells, which are told anew. -/
theorem step_set {K : KT} {L : LT} (hK : KOk Try.prog K) (hL : LOk Try.prog L) {fuel g id nb q d n0 : Nat} {E : Env} {st : AS} {ts : List Nat} {e : EK} {l : List (Nat × AV)} {rest : List (Nat × Row)} {c c' : List AV} (hs : SubOk Try.prog g (loopOf Try.prog g id)) (hnb : nb ≤ st.next) (hq : nb ≤ q)
    (hl : l.all (fun p => nmB q p.2) = true) (hm : rest.all (fun p => Nat.blt p.1 q && rowB p.2) = true) (hn0 : n0 < q) (hc : c.all noNm = true) (he : ∀ κ zs, CRel κ c zs → CRel κ c' zs)
    (h : evCode Try.prog K L (regB Try.prog) fuel g (loopOf Try.prog g id) E st (fun e E' st' => some (e, keepE E' ts (Env.mk d), (n0 :: rest.map (·.1)).map (find st'.mem))) = some (e, slots l (Env.mk d), some (.cells c true false) :: rest.map (fun p => some p.2))) :
    CodeOk Try.prog nb (szOf Try.prog g) (loopOf Try.prog g id) E st e (slots l (Env.mk d)) ⟨q, (n0, .cells c' true false) :: rest⟩ := by
  obtain ⟨st', hk, _, hrow⟩ := code_raw sprog_ok.1 sprog_ok.2 hK hL hs hnb h
  simp only [List.map_cons, List.map_map, List.cons.injEq] at hrow
  obtain ⟨h0, hr⟩ := hrow
  have hr : ∀ p ∈ rest, find st'.mem p.1 = some p.2 := fun p hp => List.map_inj_left.1 hr p hp
  refine hk.weak fun κ a w hA hR => ?_
  obtain ⟨h1, h2⟩ := pull_rel (st2 := ⟨q, (n0, .cells c' true false) :: rest⟩) _root_.id hR (fun n r2 hf => by
    have hp := find_mem _ _ _ hf
    rcases List.mem_cons.1 hp with e | e
    · simp only [Prod.mk.injEq] at e
      obtain ⟨rfl, rfl⟩ := e
      exact ⟨_, h0, RowLe.told hn0 hc he, _root_.id⟩
    · have hb := List.all_eq_true.1 hm _ e
      simp only [Bool.and_eq_true, Nat.blt_eq] at hb
      exact ⟨r2, hr _ e, RowLe.same hb.1 hb.2, _root_.id⟩) (fun n n' r r' _ _ h => h)
  refine ⟨κ.pull _root_.id q, ⟨fun n hlt => ?_, fun _ _ h => h, rfl, fun _ _ h => h⟩, ⟨⟨fun t => ?_, hA.rel.defers⟩, hA.size⟩, h1, h2⟩
  · rw [Kap.pull_loc (Nat.lt_of_lt_of_le hlt hq)]; rfl
  · have hv : Sv.nmB q ((slots l (Env.mk d)).get t) = true := by
      rcases slots_get l (Env.mk d) t with h | h | ⟨v, h1, h2⟩
      · rw [h, Env.get_mk]; rfl
      · rw [h]; rfl
      · rw [h2]; exact List.all_eq_true.1 hl _ h1
    exact (hA.rel.get t).nmB hv
/-- Registers of which the first ones are looked through. -/
def curR (C : Vw → Bool) (r r' : Nat → Vw) (i j : Nat) : Vw := bif Nat.blt j i && C (r' j) then v0 else r j
theorem beq_no {j i : Nat} (e : ¬ j = i) : Nat.beq j i = false := by
  cases h : Nat.beq j i with
  | false => rfl
  | true => exact absurd (Nat.eq_of_beq_eq_true h) e
theorem blt_succ {j i : Nat} (e : ¬ j = i) : Nat.blt j (i + 1) = Nat.blt j i := by
  have h1 : Nat.blt j (i + 1) = true ↔ j < i + 1 := by rw [Nat.blt_eq]
  have h2 : Nat.blt j i = true ↔ j < i := by rw [Nat.blt_eq]
  cases h3 : Nat.blt j (i + 1) <;> cases h4 : Nat.blt j i
  · rfl
  · rw [h3] at h1; have := h2.1 h4; exact absurd (h1.2 (by omega)) (by simp)
  · rw [h4] at h2; have := h1.1 h3; exact absurd (h2.2 (by omega)) (by simp)
  · rfl
theorem nm3 {x y z : AV} (hx : noNm x = true) (hy : noNm y = true) (hz : noNm z = true) : [x, y, z].all noNm = true := by
  show (noNm x && (noNm y && (noNm z && true))) = true
  rw [hx, hy, hz]; rfl
theorem cur_yes {C : Vw → Bool} {r r' : Nat → Vw} {i : Nat} (h : C (r' i) = true) (j : Nat) : vc (curR C r r' (i + 1) j) = elt [((Int.ofNat i).toNat, vc v0)] (fun j => vc (curR C r r' i j)) j := by
  show _ = bif Nat.beq j i then vc v0 else vc (curR C r r' i j)
  unfold curR
  by_cases e : j = i
  · subst e
    have h1 : Nat.beq j j = true := by simp
    have h2 : Nat.blt j (j + 1) = true := by simp
    rw [h1, h2, h]; rfl
  · rw [beq_no e, blt_succ e]; rfl
theorem cur_no {C : Vw → Bool} {r r' : Nat → Vw} {i : Nat} (h : C (r' i) = false) (j : Nat) : vc (curR C r r' (i + 1) j) = vc (curR C r r' i j) := by
  unfold curR
  by_cases e : j = i
  · subst e
    rw [h, Bool.and_false, Bool.and_false]
  · rw [blt_succ e]
theorem cur_end (C : Vw → Bool) (r r' : Nat → Vw) (j : Nat) (h : j < 10) : curR C r r' 10 j = bif C (r' j) then v0 else r j := by
  unfold curR
  have : Nat.blt j 10 = true := by simpa using h
  rw [this, Bool.true_and]
theorem cur_zero (C : Vw → Bool) (r r' : Nat → Vw) : curR C r r' 0 = r := funext fun j => rfl
/-- The row whose registers are set. -/
def boxR (r : Nat → Vw) (g : Nat → List AV) (vs : List (Nat × List AV)) (z : AV) : List AV := [regA r, .arr 2 8 g vs, z]
def setR (C : Vw → Bool) (r r' : Nat → Vw) : Nat → Vw := fun j => bif C (r' j) then v0 else r j
theorem box_ext {κ : Kap} {f f' g : Nat → List AV} {us us' vs : List (Nat × List AV)} {z : AV} {zs : List Value} (he : ∀ j, j < 10 → elt us' f' j = elt us f j) (h : CRel κ [.arr 5 10 f us, .arr 2 8 g vs, z] zs) : CRel κ [.arr 5 10 f' us', .arr 2 8 g vs, z] zs := CRel.arr_ext he (fun _ h => h) h

/-! ### Moved -/
def isMov (v : Vw) : Bool := v.k == 2 || v.k == 3
def lMv (r' : Nat → Vw) (i : Nat) : List (Nat × AV) := [(1, .ptr 0 [] 0), (2, .ptr 1 [] 0), (15, .agg [regA r']), (16, .int .i64 (Int.ofNat i))]
theorem gMv (r' : Nat → Vw) (i : Nat) : (slots (lMv r' i) (Env.mk 6)).get 1 = .ptr 0 [] 0 ∧ (slots (lMv r' i) (Env.mk 6)).get 2 = .ptr 1 [] 0 := by
  refine ⟨?_, ?_⟩ <;> kernel_rfl
def nMv (r' : Nat → Vw) (i : Nat) : Env := ((((Env.mk 6).set 1 (.ptr 0 [] 0)).set 2 (.ptr 1 [] 0)).set 15 (.agg [regA r'])).set 16 (.int .i64 (IntKind.i64.wrap (Int.ofNat (i + 1))))
def yes1 (r : Nat → Vw) (i : Nat) (g : Nat → List AV) (vs : List (Nat × List AV)) (z : AV) : Row := .cells [.arr 5 10 (fun j => vc (r j)) [((Int.ofNat i).toNat, vc v0)], .arr 2 8 g vs, z] true false
theorem evMv (r r' : Nat → Vw) (g : Nat → List AV) (vs : List (Nat × List AV)) (z : AV) (r1 : Row) (i : Nat) : evCode Try.prog KS9 L0 (regB Try.prog) 60 57 (loopOf Try.prog 57 0) (slots (lMv r' i) (Env.mk 6)) ⟨2, [(0, .cells (boxR r g vs z) true false), (1, r1)]⟩ (fun e E' st' => some (e, keepE E' [1, 2, 15, 16] (Env.mk 6), ([0, 1] : List Nat).map (find st'.mem))) =
  (bif decide (Int.ofNat i < 10) then bif decide (Int.ofNat i < 10) then
    bif (r' i).k == 2 then bif decide (Int.ofNat i < 10) then bif Nat.blt i 10 then some (.normal, nMv r' i, [some (yes1 r i g vs z), some r1]) else none else none else
    bif (bif false then true else (r' i).k == 3) then bif decide (Int.ofNat i < 10) then bif Nat.blt i 10 then some (.normal, nMv r' i, [some (yes1 r i g vs z), some r1]) else none else none else
    some (.normal, nMv r' i, [some (.cells (boxR r g vs z) true false), some r1])
  else none else some (.exit 0, slots (lMv r' i) (Env.mk 6), [some (.cells (boxR r g vs z) true false), some r1])) := by kernel_rfl
def fLoopMv (R : Type) (E : Env) (st : AS) : Option ((EK → Env → AS → Option R) → Option R) :=
  some fun k => match E.get 1, E.get 2, E.get 16, st.mem with
  | .ptr 0 [] 0, .ptr 1 [] 0, .int .i64 i, [(0, .cells [.arr 5 10 f us, .arr 2 8 g vs, z] true false), (1, r1)] =>
    bif Nat.beq st.next 2 && decide (i = 0) && (okA vOk 10 f us && noNm z && rowB r1) then rgK (E.get 15) fun r' =>
      k .normal (slots [(1, .ptr 0 [] 0), (2, .ptr 1 [] 0)] (Env.mk 6)) ⟨2, [(0, .cells (boxR (setR isMov (fun i => vOf (elt us f i)) r') g vs z) true false), (1, r1)]⟩ else none
  | _, _, _, _ => none
theorem okLoopMv : LoopFn Try.prog 57 0 fLoopMv := fun R E st G h hs nb hnb k y hk => by
  unfold fLoopMv at h
  simp only [Option.some.injEq] at h
  subst h
  dsimp only at hk
  split at hk
  · rename_i i f us g vs z r1 g1 g2 g16 hm
    obtain ⟨hc, hk1⟩ := cond_some hk
    clear hk
    simp only [Bool.and_eq_true, decide_eq_true_eq] at hc
    obtain ⟨⟨c1, c3⟩, ⟨c4, c5⟩, c6⟩ := hc
    have d1 := Nat.eq_of_beq_eq_true c1
    clear c1
    obtain ⟨next, mem⟩ := st
    dsimp only at hm d1
    subst hm; subst d1; subst c3
    obtain ⟨r', hk1, _, hr'⟩ := rgK_ok hk1
    have hnm : ∀ r, (boxR r g vs z).all noNm = true := fun r => nm3 rfl rfl c5
    have hrest : ([(1, r1)] : List (Nat × Row)).all (fun p => Nat.blt p.1 2 && rowB p.2) = true := by simp [c6]
    have hl := loop_upd (nb := nb) (g := 57) (id := 0) (d := 6) (q := 2) 10 (fun i => lMv r' i) (fun i => [(0, .cells (boxR (curR isMov (fun i => vOf (elt us f i)) r' i) g vs z) true false), (1, r1)]) [(1, .ptr 0 [] 0), (2, .ptr 1 [] 0)] [(0, .cells (boxR (setR isMov (fun i => vOf (elt us f i)) r') g vs z) true false), (1, r1)] (fun i hi => by
      have hev := evMv (curR isMov (fun i => vOf (elt us f i)) r' i) r' g vs z r1 i
      have hd : decide (Int.ofNat i < 10) = true := decide_eq_true (by simp; omega)
      have hb : Nat.blt i 10 = true := by simp; omega
      have hn : nMv r' i = slots (lMv r' (i + 1)) (Env.mk 6) := by
        unfold nMv
        rw [wrapNat (show i < 9223372036854775807 by omega)]; rfl
      rw [hd, hb, hn] at hev
      simp only [cond_true, cond_false] at hev
      cases hC : isMov (r' i) with
      | true =>
        have hev2 : evCode Try.prog KS9 L0 (regB Try.prog) 60 57 (loopOf Try.prog 57 0) (slots (lMv r' i) (Env.mk 6)) ⟨2, [(0, .cells (boxR (curR isMov (fun i => vOf (elt us f i)) r' i) g vs z) true false), (1, r1)]⟩ (fun e E' st' => some (e, keepE E' [1, 2, 15, 16] (Env.mk 6), ([0, 1] : List Nat).map (find st'.mem))) = some (.normal, slots (lMv r' (i + 1)) (Env.mk 6), [some (yes1 (curR isMov (fun i => vOf (elt us f i)) r' i) i g vs z), some r1]) := by
          rw [hev]
          unfold isMov at hC
          cases h2 : ((r' i).k == 2) with
          | true => rfl
          | false =>
            rw [h2, Bool.false_or] at hC
            rw [hC]; rfl
        exact step_set KS9_ok l0_ok (n0 := 0) (rest := [(1, r1)]) (ts := [1, 2, 15, 16]) (fuel := 60) hs hnb hnb rfl hrest (by omega) (nm3 rfl rfl c5) (fun κ zs => box_ext fun j _ => cur_yes hC j) hev2
      | false =>
        have hev2 : evCode Try.prog KS9 L0 (regB Try.prog) 60 57 (loopOf Try.prog 57 0) (slots (lMv r' i) (Env.mk 6)) ⟨2, [(0, .cells (boxR (curR isMov (fun i => vOf (elt us f i)) r' i) g vs z) true false), (1, r1)]⟩ (fun e E' st' => some (e, keepE E' [1, 2, 15, 16] (Env.mk 6), ([0, 1] : List Nat).map (find st'.mem))) = some (.normal, slots (lMv r' (i + 1)) (Env.mk 6), [some (.cells (boxR (curR isMov (fun i => vOf (elt us f i)) r' i) g vs z) true false), some r1]) := by
          rw [hev]
          unfold isMov at hC
          simp only [Bool.or_eq_false_iff] at hC
          rw [hC.1, hC.2]; rfl
        exact step_set KS9_ok l0_ok (n0 := 0) (rest := [(1, r1)]) (ts := [1, 2, 15, 16]) (fuel := 60) hs hnb hnb rfl hrest (by omega) (hnm _) (fun κ zs => box_ext fun j _ => cur_no hC j) hev2) (by
      have hev := evMv (curR isMov (fun i => vOf (elt us f i)) r' 10) r' g vs z r1 10
      have h := step_set (q := 2) (d := 6) (c := boxR (curR isMov (fun i => vOf (elt us f i)) r' 10) g vs z) (c' := boxR (setR isMov (fun i => vOf (elt us f i)) r') g vs z) (e := .exit 0) (l := lMv r' 10) (st := ⟨2, [(0, .cells (boxR (curR isMov (fun i => vOf (elt us f i)) r' 10) g vs z) true false), (1, r1)]⟩) KS9_ok l0_ok (n0 := 0) (rest := [(1, r1)]) (ts := [1, 2, 15, 16]) (fuel := 60) hs hnb hnb rfl hrest (by omega) (hnm _) (fun κ zs => box_ext (us := []) (us' := []) (f := fun j => vc (curR isMov (fun i => vOf (elt us f i)) r' 10 j)) (f' := fun j => vc (setR isMov (fun i => vOf (elt us f i)) r' j)) fun j hj => congrArg vc (cur_end isMov (fun i => vOf (elt us f i)) r' j hj).symm) hev
      refine h.less (less_slots fun p hp => ?_)
      obtain ⟨q1, q2⟩ := gMv r' 10
      simp only [List.mem_cons, List.not_mem_nil, or_false] at hp
      rcases hp with rfl | rfl
      · exact q1
      · exact q2)
    have hw : Weak nb (szOf Try.prog 57) E ⟨2, [(0, .cells [.arr 5 10 f us, .arr 2 8 g vs, z] true false), (1, r1)]⟩ (slots (lMv r' 0) (Env.mk 6)) ⟨2, [(0, .cells (boxR (curR isMov (fun i => vOf (elt us f i)) r' 0) g vs z) true false), (1, r1)]⟩ := weak_pull _root_.id (fun _ _ => rfl) hnb (fun p hp κ z hz => by
      simp only [lMv, List.mem_cons, List.not_mem_nil, or_false] at hp
      rcases hp with rfl | rfl | rfl | rfl
      · dsimp only at hz; rw [g1] at hz; exact VRel.pull_ptr rfl (by dsimp only; omega) hz
      · dsimp only at hz; rw [g2] at hz; exact VRel.pull_ptr rfl (by dsimp only; omega) hz
      · exact VRel.nmB rfl (hr' κ z hz)
      · dsimp only at hz; rw [g16] at hz; exact VRel.pull rfl hz) (fun q r2 hf => by
      have hp := find_mem _ _ _ hf
      simp only [List.mem_cons, List.not_mem_nil, or_false, Prod.mk.injEq] at hp
      rcases hp with ⟨rfl, rfl⟩ | ⟨rfl, rfl⟩
      · exact ⟨_, rfl, RowLe.told (by dsimp only; omega) (nm3 rfl rfl c5) (fun κ zs => box_ext fun j hj => vc_of (okA_at c4 hj)), fun _ => rfl⟩
      · exact ⟨_, rfl, RowLe.same (by dsimp only; omega) c6, id⟩) (fun _ _ _ _ _ _ h => h)
    exact ⟨.exit 0, _, _, hk1, Nat.le_refl _, hl.weak hw⟩
  · cases hk
end Go.Sv
namespace Go.Sv
open Go.RowKit Go.Proofs
set_option linter.unusedSimpArgs false
set_option linter.unusedVariables false
/-! ### Made -/
def isMd (id : Int) (v : Vw) : Bool := v.k == 2 && v.i == id
def lMd (reg id : Int) (r' : Nat → Vw) (i : Nat) : List (Nat × AV) := [(3, .ptr 0 [] 0), (6, .ptr 1 [] 0), (1, .int .i64 reg), (9, .int .i64 id), (38, .agg [regA r']), (39, .int .i64 (Int.ofNat i))]
theorem gMd (reg id : Int) (r' : Nat → Vw) (i : Nat) : (slots (lMd reg id r' i) (Env.mk 7)).get 3 = .ptr 0 [] 0 ∧ (slots (lMd reg id r' i) (Env.mk 7)).get 6 = .ptr 1 [] 0 ∧ (slots (lMd reg id r' i) (Env.mk 7)).get 1 = .int .i64 reg ∧ (slots (lMd reg id r' i) (Env.mk 7)).get 9 = .int .i64 id := by
  refine ⟨?_, ?_, ?_, ?_⟩ <;> kernel_rfl
def nMd (reg id : Int) (r' : Nat → Vw) (i : Nat) : Env := ((((((Env.mk 7).set 3 (.ptr 0 [] 0)).set 6 (.ptr 1 [] 0)).set 1 (.int .i64 reg)).set 9 (.int .i64 id)).set 38 (.agg [regA r'])).set 39 (.int .i64 (IntKind.i64.wrap (Int.ofNat (i + 1))))
theorem evMd (reg id : Int) (r r' : Nat → Vw) (g : Nat → List AV) (vs : List (Nat × List AV)) (z : AV) (r1 : Row) (i : Nat) : evCode Try.prog KS9 L0 (regB Try.prog) 60 61 (loopOf Try.prog 61 0) (slots (lMd reg id r' i) (Env.mk 7)) ⟨2, [(0, .cells (boxR r g vs z) true false), (1, r1)]⟩ (fun e E' st' => some (e, keepE E' [3, 6, 1, 9, 38, 39] (Env.mk 7), ([0, 1] : List Nat).map (find st'.mem))) =
  (bif decide (Int.ofNat i < 10) then bif decide (Int.ofNat i < 10) then
    bif (r' i).k == 2 then bif (bif true then (r' i).i == id else false) then bif decide (Int.ofNat i < 10) then bif Nat.blt i 10 then some (.normal, nMd reg id r' i, [some (yes1 r i g vs z), some r1]) else none else none else
    some (.normal, nMd reg id r' i, [some (.cells (boxR r g vs z) true false), some r1]) else some (.normal, nMd reg id r' i, [some (.cells (boxR r g vs z) true false), some r1])
  else none else some (.exit 0, slots (lMd reg id r' i) (Env.mk 7), [some (.cells (boxR r g vs z) true false), some r1])) := by kernel_rfl
def fLoopMd (R : Type) (E : Env) (st : AS) : Option ((EK → Env → AS → Option R) → Option R) :=
  some fun k => match E.get 3, E.get 6, E.get 39, E.get 1, E.get 9, st.mem with
  | .ptr 0 [] 0, .ptr 1 [] 0, .int .i64 i, .int .i64 reg, .int .i64 id, [(0, .cells [.arr 5 10 f us, .arr 2 8 g vs, z] true false), (1, r1)] =>
    bif Nat.beq st.next 2 && decide (i = 0) && (okA vOk 10 f us && noNm z && rowB r1) then rgK (E.get 38) fun r' =>
      k .normal (slots [(3, .ptr 0 [] 0), (6, .ptr 1 [] 0), (1, .int .i64 reg), (9, .int .i64 id)] (Env.mk 7)) ⟨2, [(0, .cells (boxR (setR (isMd id) (fun i => vOf (elt us f i)) r') g vs z) true false), (1, r1)]⟩ else none
  | _, _, _, _, _, _ => none
theorem okLoopMd : LoopFn Try.prog 61 0 fLoopMd := fun R E st G h hs nb hnb k y hk => by
  unfold fLoopMd at h
  simp only [Option.some.injEq] at h
  subst h
  dsimp only at hk
  split at hk
  · rename_i i reg id f us g vs z r1 g3 g6 g39 g1 g9 hm
    obtain ⟨hc, hk1⟩ := cond_some hk
    clear hk
    simp only [Bool.and_eq_true, decide_eq_true_eq] at hc
    obtain ⟨⟨c1, c3⟩, ⟨c4, c5⟩, c6⟩ := hc
    have d1 := Nat.eq_of_beq_eq_true c1
    clear c1
    obtain ⟨next, mem⟩ := st
    dsimp only at hm d1
    subst hm; subst d1; subst c3
    obtain ⟨r', hk1, _, hr'⟩ := rgK_ok hk1
    have hnm : ∀ r, (boxR r g vs z).all noNm = true := fun r => nm3 rfl rfl c5
    have hrest : ([(1, r1)] : List (Nat × Row)).all (fun p => Nat.blt p.1 2 && rowB p.2) = true := by simp [c6]
    have hl := loop_upd (nb := nb) (g := 61) (id := 0) (d := 7) (q := 2) 10 (fun i => lMd reg id r' i) (fun i => [(0, .cells (boxR (curR (isMd id) (fun i => vOf (elt us f i)) r' i) g vs z) true false), (1, r1)]) [(3, .ptr 0 [] 0), (6, .ptr 1 [] 0), (1, .int .i64 reg), (9, .int .i64 id)] [(0, .cells (boxR (setR (isMd id) (fun i => vOf (elt us f i)) r') g vs z) true false), (1, r1)] (fun i hi => by
      have hev := evMd reg id (curR (isMd id) (fun i => vOf (elt us f i)) r' i) r' g vs z r1 i
      have hd : decide (Int.ofNat i < 10) = true := decide_eq_true (by simp; omega)
      have hb : Nat.blt i 10 = true := by simp; omega
      have hn : nMd reg id r' i = slots (lMd reg id r' (i + 1)) (Env.mk 7) := by
        unfold nMd
        rw [wrapNat (show i < 9223372036854775807 by omega)]; rfl
      rw [hd, hb, hn] at hev
      simp only [cond_true, cond_false] at hev
      cases hC : isMd id (r' i) with
      | true =>
        have hev2 : evCode Try.prog KS9 L0 (regB Try.prog) 60 61 (loopOf Try.prog 61 0) (slots (lMd reg id r' i) (Env.mk 7)) ⟨2, [(0, .cells (boxR (curR (isMd id) (fun i => vOf (elt us f i)) r' i) g vs z) true false), (1, r1)]⟩ (fun e E' st' => some (e, keepE E' [3, 6, 1, 9, 38, 39] (Env.mk 7), ([0, 1] : List Nat).map (find st'.mem))) = some (.normal, slots (lMd reg id r' (i + 1)) (Env.mk 7), [some (yes1 (curR (isMd id) (fun i => vOf (elt us f i)) r' i) i g vs z), some r1]) := by
          rw [hev]
          unfold isMd at hC
          simp only [Bool.and_eq_true] at hC
          rw [hC.1, hC.2]; rfl
        exact step_set KS9_ok l0_ok (n0 := 0) (rest := [(1, r1)]) (ts := [3, 6, 1, 9, 38, 39]) (fuel := 60) hs hnb hnb rfl hrest (by omega) (nm3 rfl rfl c5) (fun κ zs => box_ext fun j _ => cur_yes hC j) hev2
      | false =>
        have hev2 : evCode Try.prog KS9 L0 (regB Try.prog) 60 61 (loopOf Try.prog 61 0) (slots (lMd reg id r' i) (Env.mk 7)) ⟨2, [(0, .cells (boxR (curR (isMd id) (fun i => vOf (elt us f i)) r' i) g vs z) true false), (1, r1)]⟩ (fun e E' st' => some (e, keepE E' [3, 6, 1, 9, 38, 39] (Env.mk 7), ([0, 1] : List Nat).map (find st'.mem))) = some (.normal, slots (lMd reg id r' (i + 1)) (Env.mk 7), [some (.cells (boxR (curR (isMd id) (fun i => vOf (elt us f i)) r' i) g vs z) true false), some r1]) := by
          rw [hev]
          unfold isMd at hC
          cases h2 : ((r' i).k == 2) with
          | false => rfl
          | true =>
            rw [h2, Bool.true_and] at hC
            rw [hC]; rfl
        exact step_set KS9_ok l0_ok (n0 := 0) (rest := [(1, r1)]) (ts := [3, 6, 1, 9, 38, 39]) (fuel := 60) hs hnb hnb rfl hrest (by omega) (hnm _) (fun κ zs => box_ext fun j _ => cur_no hC j) hev2) (by
      have hev := evMd reg id (curR (isMd id) (fun i => vOf (elt us f i)) r' 10) r' g vs z r1 10
      have h := step_set (q := 2) (d := 7) (c := boxR (curR (isMd id) (fun i => vOf (elt us f i)) r' 10) g vs z) (c' := boxR (setR (isMd id) (fun i => vOf (elt us f i)) r') g vs z) (e := .exit 0) (l := lMd reg id r' 10) (st := ⟨2, [(0, .cells (boxR (curR (isMd id) (fun i => vOf (elt us f i)) r' 10) g vs z) true false), (1, r1)]⟩) KS9_ok l0_ok (n0 := 0) (rest := [(1, r1)]) (ts := [3, 6, 1, 9, 38, 39]) (fuel := 60) hs hnb hnb rfl hrest (by omega) (hnm _) (fun κ zs => box_ext (us := []) (us' := []) (f := fun j => vc (curR (isMd id) (fun i => vOf (elt us f i)) r' 10 j)) (f' := fun j => vc (setR (isMd id) (fun i => vOf (elt us f i)) r' j)) fun j hj => congrArg vc (cur_end (isMd id) (fun i => vOf (elt us f i)) r' j hj).symm) hev
      refine h.less (less_slots fun p hp => ?_)
      obtain ⟨q1, q2, q3, q4⟩ := gMd reg id r' 10
      simp only [List.mem_cons, List.not_mem_nil, or_false] at hp
      rcases hp with rfl | rfl | rfl | rfl
      · exact q1
      · exact q2
      · exact q3
      · exact q4)
    have hw : Weak nb (szOf Try.prog 61) E ⟨2, [(0, .cells [.arr 5 10 f us, .arr 2 8 g vs, z] true false), (1, r1)]⟩ (slots (lMd reg id r' 0) (Env.mk 7)) ⟨2, [(0, .cells (boxR (curR (isMd id) (fun i => vOf (elt us f i)) r' 0) g vs z) true false), (1, r1)]⟩ := weak_pull _root_.id (fun _ _ => rfl) hnb (fun p hp κ z hz => by
      simp only [lMd, List.mem_cons, List.not_mem_nil, or_false] at hp
      rcases hp with rfl | rfl | rfl | rfl | rfl | rfl
      · dsimp only at hz; rw [g3] at hz; exact VRel.pull_ptr rfl (by dsimp only; omega) hz
      · dsimp only at hz; rw [g6] at hz; exact VRel.pull_ptr rfl (by dsimp only; omega) hz
      · dsimp only at hz; rw [g1] at hz; exact VRel.pull rfl hz
      · dsimp only at hz; rw [g9] at hz; exact VRel.pull rfl hz
      · exact VRel.nmB rfl (hr' κ z hz)
      · dsimp only at hz; rw [g39] at hz; exact VRel.pull rfl hz) (fun q r2 hf => by
      have hp := find_mem _ _ _ hf
      simp only [List.mem_cons, List.not_mem_nil, or_false, Prod.mk.injEq] at hp
      rcases hp with ⟨rfl, rfl⟩ | ⟨rfl, rfl⟩
      · exact ⟨_, rfl, RowLe.told (by dsimp only; omega) (nm3 rfl rfl c5) (fun κ zs => box_ext fun j hj => vc_of (okA_at c4 hj)), fun _ => rfl⟩
      · exact ⟨_, rfl, RowLe.same (by dsimp only; omega) c6, _root_.id⟩) (fun _ _ _ _ _ _ h => h)
    exact ⟨.exit 0, _, _, hk1, Nat.le_refl _, hl.weak hw⟩
  · cases hk
end Go.Sv
namespace Go.Sv
open Go.RowKit Go.Proofs
set_option linter.unusedSimpArgs false
set_option linter.unusedVariables false
def LSC : LT := addL 57 0 fLoopMv (addL 61 0 fLoopMd L0)
theorem LSC_ok : LOk Try.prog LSC := addL_ok sprog_ok.1 (by kernel_rfl) okLoopMv (addL_ok sprog_ok.1 (by kernel_rfl) okLoopMd l0_ok)
def movR (t : St) : St × Int := bif chkB t then (movT t, 0) else (t0, 2)
def calR (t : St) : St × Int := bif chkB t then (calT t, 0) else (t0, 2)
def inB (reg at1 : Int) : Bool := (decide (0 ≤ reg) && decide (reg < 10)) && (decide (0 ≤ at1) && decide (at1 < 256))
def mdeR (t : St) (reg at1 : Int) : St × Int := bif chkB t && inB reg at1 then (mdeT t reg.toNat (1 + at1), 0) else (t0, 2)
theorem evMoved1 (a : St) : evFn Try.prog KSA LSC (regB Try.prog) 80 57 [stA a] ⟨0, []⟩ kTJ =
  (bif true && okL (kf a.kn) a.kn.length [] then bif chkI (stL a) != 0 then zTJ t0 (chkI (stL a)) else zTJ ⟨setR isMov a.r a.r, a.s, []⟩ 0 else none) := by kernel_rfl
theorem okMoved1 : FnOk Try.prog 57 (fS1 movR) := fS1_ok fun a => by
  have hev := evMoved1 a
  simp only [okL_kf, kl_kf, stL_eq, chkI_ne, Bool.and_self, Bool.true_and, cond_true] at hev
  unfold movR
  cases ha : chkB a with
  | false =>
    simp only [ha, Bool.not_false, cond_true, chkI_no ha] at hev
    exact .zTJ KSA_ok LSC_ok rfl rfl hev
  | true =>
    simp only [ha, Bool.not_true, cond_false] at hev
    exact .zTJ KSA_ok LSC_ok rfl rfl hev
theorem evCalled1 (a : St) : evFn Try.prog KSA LSC (regB Try.prog) 80 59 [stA a] ⟨0, []⟩ kTJ =
  (bif true && okL (kf a.kn) a.kn.length [] then bif chkI (stL a) != 0 then zTJ t0 (chkI (stL a)) else
    bif okL (kf a.kn) a.kn.length [] && Nat.ble (a.kn.length * 16) LIM then oTJ 2 (calT ⟨a.r, a.s, kl (kf a.kn) a.kn.length []⟩) 0 else none else none) := by kernel_rfl
theorem len_16 {X : List (Int × Int)} (h : chkE X = 0) : Nat.ble (X.length * 16) LIM = true := Nat.ble_eq_true_of_le (by have := (chkE_zero h).1; unfold LIM; omega)
theorem okCalled1 : FnOk Try.prog 59 (fS1 calR) := fS1_ok fun a => by
  have hev := evCalled1 a
  simp only [okL_kf, kl_kf, stL_eq, chkI_ne, Bool.and_self, Bool.true_and, cond_true] at hev
  unfold calR
  cases ha : chkB a with
  | false =>
    simp only [ha, Bool.not_false, cond_true, chkI_no ha] at hev
    exact .zTJ KSA_ok LSC_ok rfl rfl hev
  | true =>
    simp only [ha, Bool.not_true, cond_false, cond_true, len_16 (chkB_iff.1 ha).kn] at hev
    exact .oTJ KSA_ok LSC_ok rfl hev
def oTM (t : St) (n : Nat) (id : Int) (kn : List (Int × Int)) : Option (List (List AV) × List (List AV) × AV × Int × Option Row) := some ((List.range 10).map fun i => bif Nat.beq i n then vc (ptrV id) else vc (setR (isMd id) t.r t.r i), (List.range 8).map fun i => sc (t.s i), .slc 2 [] 0 0 2 kn.length kn.length, 0, some (rOf kn))
theorem oTM_eq (t : St) (n : Nat) (id : Int) (kn : List (Int × Int)) : oTM t n id kn = oTJ 2 ⟨fun i => bif Nat.beq i n then ptrV id else setR (isMd id) t.r t.r i, t.s, kn⟩ 0 := by
  have : (fun i => bif Nat.beq i n then vc (ptrV id) else vc (setR (isMd id) t.r t.r i)) = fun i => vc (bif Nat.beq i n then ptrV id else setR (isMd id) t.r t.r i) := funext fun i => by
    cases Nat.beq i n <;> rfl
  unfold oTM oTJ
  rw [this]
theorem evMade1 (a : St) (reg at1 : Int) : evFn Try.prog KSA LSC (regB Try.prog) 80 61 [stA a, .int .i64 reg, .int .i64 at1] ⟨0, []⟩ kTJ =
  (bif true && okL (kf a.kn) a.kn.length [] then bif chkI (stL a) != 0 then zTJ t0 (chkI (stL a)) else
    bif decide (reg < 0) then zTJ t0 2 else bif (bif false then true else decide (reg ≥ 10)) then zTJ t0 2 else bif (bif false then true else decide (at1 < 0)) then zTJ t0 2 else bif (bif false then true else decide (at1 ≥ 256)) then zTJ t0 2 else
    bif decide (0 ≤ reg) then bif decide (reg < 10) then bif Nat.blt reg.toNat 10 then bif okL (kf a.kn) a.kn.length [] then
      bif (frgF (kl (kf a.kn) a.kn.length []) (IntKind.i64.wrap (1 + at1))).2 != 0 then zTJ t0 (frgF (kl (kf a.kn) a.kn.length []) (IntKind.i64.wrap (1 + at1))).2 else oTM a reg.toNat (IntKind.i64.wrap (1 + at1)) (frgF (kl (kf a.kn) a.kn.length []) (IntKind.i64.wrap (1 + at1))).1
    else none else none else none else none
  else none) := by kernel_rfl
theorem okMade1S (a : St) (reg at1 : Int) : SoundFn Try.prog 61 [stA a, .int .i64 reg, .int .i64 at1] ⟨0, []⟩ (oSt (mdeR a reg at1).1 (mdeR a reg at1).2) (oAS (mdeR a reg at1).1) := by
  have hev := evMade1 a reg at1
  simp only [oTM_eq, okL_kf, kl_kf, stL_eq, chkI_ne, Bool.and_self, Bool.true_and, cond_true, cond_false] at hev
  unfold mdeR inB
  cases ha : chkB a with
  | false =>
    simp only [ha, Bool.not_false, cond_true, chkI_no ha] at hev
    exact .zTJ KSA_ok LSC_ok rfl rfl hev
  | true =>
    simp only [ha, Bool.not_true, cond_false, Bool.true_and] at hev ⊢
    by_cases h1 : reg < 0
    · rw [decide_eq_true h1] at hev
      rw [decide_eq_false (show ¬ 0 ≤ reg by omega)]
      exact .zTJ KSA_ok LSC_ok rfl rfl hev
    by_cases h2 : reg ≥ 10
    · rw [decide_eq_false h1, decide_eq_true h2] at hev
      rw [decide_eq_true (show 0 ≤ reg by omega), decide_eq_false (show ¬ reg < 10 by omega)]
      exact .zTJ KSA_ok LSC_ok rfl rfl hev
    by_cases h3 : at1 < 0
    · rw [decide_eq_false h1, decide_eq_false h2, decide_eq_true h3] at hev
      rw [decide_eq_true (show 0 ≤ reg by omega), decide_eq_true (show reg < 10 by omega), decide_eq_false (show ¬ 0 ≤ at1 by omega)]
      exact .zTJ KSA_ok LSC_ok rfl rfl hev
    by_cases h4 : at1 ≥ 256
    · rw [decide_eq_false h1, decide_eq_false h2, decide_eq_false h3, decide_eq_true h4] at hev
      rw [decide_eq_true (show 0 ≤ reg by omega), decide_eq_true (show reg < 10 by omega), decide_eq_true (show 0 ≤ at1 by omega), decide_eq_false (show ¬ at1 < 256 by omega)]
      exact .zTJ KSA_ok LSC_ok rfl rfl hev
    have hb : Nat.blt reg.toNat 10 = true := by simp; omega
    have hw : IntKind.i64.wrap (1 + at1) = 1 + at1 := wrap_in64 (by omega) (by omega)
    have hi : idB (1 + at1) = true := by simp [idB]; omega
    have e := (frg_byt (chkB_iff.1 ha).kn hi).2.1
    have e' : ((frgF a.kn (1 + at1)).2 != 0) = false := by rw [e]; rfl
    rw [decide_eq_false h1, decide_eq_false h2, decide_eq_false h3, decide_eq_false h4, decide_eq_true (show 0 ≤ reg by omega), decide_eq_true (show reg < 10 by omega), hb, hw, e'] at hev
    rw [decide_eq_true (show 0 ≤ reg by omega), decide_eq_true (show reg < 10 by omega), decide_eq_true (show 0 ≤ at1 by omega), decide_eq_true (show at1 < 256 by omega)]
    exact .oTJ KSA_ok LSC_ok rfl hev
def fMde (R : Type) (vs : List AV) (k : AV → AS → Option R) : Option R :=
  match vs with
  | [x, .int .i64 reg, .int .i64 at1] => stK x fun a => k (oSt (mdeR a reg at1).1 (mdeR a reg at1).2) (oAS (mdeR a reg at1).1)
  | _ => none
theorem fMde_ok {g : FuncId} (h : ∀ a reg at1, SoundFn Try.prog g [stA a, .int .i64 reg, .int .i64 at1] ⟨0, []⟩ (oSt (mdeR a reg at1).1 (mdeR a reg at1).2) (oAS (mdeR a reg at1).1)) : FnOk Try.prog g fMde := fun R vs k r hr => by
  unfold fMde at hr
  split at hr
  · rename_i x reg at1
    obtain ⟨a, hr, ha, hx⟩ := stK_ok hr
    exact ⟨_, _, hr, flat_st, (h a reg at1).args fun κ ys hc => hc.cons_map (fun y hy => hx κ y hy) (fun _ h => h) ha⟩
  · cases hr
theorem okMade1 : FnOk Try.prog 61 fMde := fMde_ok okMade1S
def hasSD : FuncId → Bool := addHas 57 (addHas 59 (addHas 61 hasSA))
def specSD : SpecT := addS 57 (fS1 movR) (addS 59 (fS1 calR) (addS 61 fMde specSA))
theorem specSD_ok : SpecOk Try.prog hasSD specSD := addS_ok okMoved1 (addS_ok okCalled1 (addS_ok okMade1 specSA_ok))
def KSD : KT := orK (specK hasSD specSD) KX
theorem KSD_ok : KOk Try.prog KSD := orK_ok (specK_ok specSD_ok) KX_ok
end Go.Sv
namespace Go.Sv
open Go.RowKit Go.Proofs
set_option linter.unusedSimpArgs false
set_option linter.unusedVariables false

/-! ### rows that name other rows -/
theorem RowLe.toldC {next n : Nat} {c c' : List AV} {own tip : Bool} (hn : n < next) (he : ∀ κ zs, CRel κ c zs → CRel (κ.pull id next) c' zs) : RowLe id next n (.cells c own tip) (.cells c' own tip) := fun κ W h => by
  rcases h with ⟨h1, h2⟩ | ⟨b, zs, rest, e, fr, h1, h2, h3, h4, h5⟩
  · exact .inl ⟨by rw [Kap.pull_loc hn]; exact h1, he _ _ h2⟩
  · exact .inr ⟨b, zs, rest, e, fr, by rw [Kap.pull_loc hn]; exact h1, h2, he _ _ h3, h4, h5⟩
def rowC (q : Nat) : Row → Bool
  | .cells c _ _ => c.all (nm1 q)
  | .map _ _ _ => true
  | .ptab _ => true
theorem RowLe.sameC {q n : Nat} {r : Row} (hn : n < q) (h : rowC q r = true) : RowLe id q n r r := by
  cases r with
  | cells c own tip => exact RowLe.toldC hn fun κ zs hz => CRel.nm1 h hz
  | map kk l clock => exact RowLe.map hn
  | ptab xs => exact RowLe.ptab hn
section
variable {P : Program}
theorem code_rowsC {K : KT} {L : LT} (hP : ProgOk P) (hr : RegsOk P) (hK : KOk P K) (hL : LOk P L) {fuel : Nat} {g : FuncId} {c : Code} {E : Env} {st : AS} {nb q d : Nat} {ts : List Nat} {e : EK} {l : List (Nat × AV)} {ms : List (Nat × Row)}
    (hs : SubOk P g c) (hnb : nb ≤ st.next) (hq : nb ≤ q) (hl : l.all (fun p => nmB q p.2) = true) (hm : ms.all (fun p => Nat.blt p.1 q && rowC q p.2) = true)
    (h : evCode P K L (regB P) fuel g c E st (fun e E' st' => some (e, keepE E' ts (Env.mk d), ms.map (fun p => find st'.mem p.1))) = some (e, slots l (Env.mk d), ms.map (fun p => some p.2))) :
    CodeOk P nb (szOf P g) c E st e (slots l (Env.mk d)) ⟨q, ms⟩ := by
  have h' : evCode P K L (regB P) fuel g c E st (fun e E' st' => some (e, keepE E' ts (Env.mk d), (ms.map (·.1)).map (find st'.mem))) = some (e, slots l (Env.mk d), ms.map (fun p => some p.2)) := by
    simp only [List.map_map]
    exact h
  obtain ⟨st', hc, _, hrow⟩ := code_raw hP hr hK hL hs hnb h'
  have hrow : ∀ p ∈ ms, find st'.mem p.1 = some p.2 := by
    rw [List.map_map] at hrow
    intro p hp
    exact List.map_inj_left.1 hrow p hp
  refine hc.weak fun κ a w hA hR => ?_
  obtain ⟨h1, h2⟩ := pull_rel (st2 := ⟨q, ms⟩) id hR (fun n r2 hf => by
    have hp := find_mem _ _ _ hf
    have hb := List.all_eq_true.1 hm _ hp
    simp only [Bool.and_eq_true, Nat.blt_eq] at hb
    exact ⟨r2, hrow _ hp, RowLe.sameC hb.1 hb.2, id⟩) (fun n n' r r' _ _ h => h)
  refine ⟨κ.pull id q, ⟨fun n hlt => ?_, fun _ _ h => h, rfl, fun _ _ h => h⟩, ⟨⟨fun t => ?_, hA.rel.defers⟩, hA.size⟩, h1, h2⟩
  · rw [Kap.pull_loc (Nat.lt_of_lt_of_le hlt hq)]; rfl
  · have hv : Sv.nmB q ((slots l (Env.mk d)).get t) = true := by
      rcases slots_get l (Env.mk d) t with h | h | ⟨v, h1, h2⟩
      · rw [h, Env.get_mk]; rfl
      · rw [h]; rfl
      · rw [h2]; exact List.all_eq_true.1 hl _ h1
    exact (hA.rel.get t).nmB hv

end
theorem loop_allC {K : KT} {L : LT} (hK : KOk Try.prog K) (hL : LOk Try.prog L) {g id d q nb fuel : Nat} {ts : List Nat} (len : Nat) (ok : Nat → Bool) (A O : Nat → List (Nat × AV)) (ms : List (Nat × Row)) (fin out : List (Nat × AV)) (hs : SubOk Try.prog g (loopOf Try.prog g id)) (hnb : nb ≤ q)
    (hA : ∀ i, (A i).all (fun p => nmB q p.2) = true) (hO : ∀ i, (O i).all (fun p => nmB q p.2) = true) (hm : ms.all (fun p => Nat.blt p.1 q && rowC q p.2) = true)
    (hf : ∀ p ∈ fin, (slots (A len) (Env.mk d)).get p.1 = p.2) (ho : ∀ i, ∀ p ∈ out, (slots (O i) (Env.mk d)).get p.1 = p.2)
    (h1 : ∀ i, i < len → evCode Try.prog K L (regB Try.prog) fuel g (loopOf Try.prog g id) (slots (A i) (Env.mk d)) ⟨q, ms⟩ (fun e E' st' => some (e, keepE E' ts (Env.mk d), ms.map (fun p => find st'.mem p.1))) = bif ok i then some (.normal, slots (A (i + 1)) (Env.mk d), ms.map (fun p => some p.2)) else some (.ret, slots (O i) (Env.mk d), ms.map (fun p => some p.2)))
    (h2 : evCode Try.prog K L (regB Try.prog) fuel g (loopOf Try.prog g id) (slots (A len) (Env.mk d)) ⟨q, ms⟩ (fun e E' st' => some (e, keepE E' ts (Env.mk d), ms.map (fun p => find st'.mem p.1))) = some (.exit id, slots (A len) (Env.mk d), ms.map (fun p => some p.2))) :
    LoopOk Try.prog nb (szOf Try.prog g) (loopOf Try.prog g id) (slots (A 0) (Env.mk d)) ⟨q, ms⟩ (bif (List.range len).all ok then Fin3.mk (.exit id) (slots fin (Env.mk d)) ⟨q, ms⟩ else ⟨.ret, slots out (Env.mk d), ⟨q, ms⟩⟩).e
      (bif (List.range len).all ok then Fin3.mk (.exit id) (slots fin (Env.mk d)) ⟨q, ms⟩ else ⟨.ret, slots out (Env.mk d), ⟨q, ms⟩⟩).E (bif (List.range len).all ok then Fin3.mk (.exit id) (slots fin (Env.mk d)) ⟨q, ms⟩ else ⟨.ret, slots out (Env.mk d), ⟨q, ms⟩⟩).st := by
  have hr : (List.range len).length = len := List.length_range
  rw [← stAll_fold]
  refine loop_fold (P := Try.prog) (nb := nb) (sz := szOf Try.prog g) (b := loopOf Try.prog g id) (fun (_ : Unit) i => bif ok i then Sum.inl () else Sum.inr ()) (List.range len) 0 (fun _ _ => True) (fun i _ => (slots (A i) (Env.mk d), ⟨q, ms⟩)) (fun _ => ⟨.exit id, slots fin (Env.mk d), ⟨q, ms⟩⟩) (fun _ => ⟨.ret, slots out (Env.mk d), ⟨q, ms⟩⟩) (fun i _ _ hi => ?_) (fun _ _ => ?_) (fun _ h => by cases h) (fun _ h => by cases h) (List.range len) 0 () trivial rfl (Nat.zero_le _)
  · rw [hr] at hi
    have hg : (List.range len).getD i 0 = i := by simp [List.getD, hi]
    have hev := h1 i hi
    rw [hg]
    cases hb : ok i with
    | true =>
      rw [hb, cond_true] at hev
      exact ⟨trivial, code_rowsC sprog_ok.1 sprog_ok.2 hK hL hs hnb hnb (hA _) hm hev⟩
    | false =>
      rw [hb, cond_false] at hev
      exact (code_rowsC sprog_ok.1 sprog_ok.2 hK hL hs hnb hnb (hO _) hm hev).less (less_slots fun p hp => ho i p hp)
  · rw [hr]
    exact (code_rowsC sprog_ok.1 sprog_ok.2 hK hL hs hnb hnb (hA _) hm h2).less (less_slots fun p hp => hf p hp)


/-! ### the round -/
/-- A state in a variable, its list in a row of its own. -/
def boxS (q : Nat) (t : St) : Row := .cells [regA t.r, sltA t.s, .slc q [] 0 0 2 t.kn.length t.kn.length] true false
def mT (a s : St) : List (Nat × Row) := [(0, boxA a), (2, rOf s.kn), (3, boxS 2 s)]
def lT (v6 : AV) (at1 : Int) (i : Nat) : List (Nat × AV) := [(6, v6), (3, .ptr 0 [] 0), (7, .ptr 3 [] 0), (2, .int .i64 at1), (9, .int .i64 (Int.ofNat i))]
theorem gT (v6 : AV) (at1 : Int) (i : Nat) : (slots (lT v6 at1 i) (Env.mk 7)).get 6 = v6 := by kernel_rfl
def nT (at1 : Int) (i : Nat) : Env := (((((Env.mk 7).set 6 .any).set 3 (.ptr 0 [] 0)).set 7 (.ptr 3 [] 0)).set 2 (.int .i64 at1)).set 9 (.int .i64 (IntKind.i64.wrap (Int.ofNat (i + 1))))
theorem evT (a s : St) (at1 : Int) (i : Nat) : evCode Try.prog KSD L0 (regB Try.prog) 90 14 (loopOf Try.prog 14 0) (slots (lT .any at1 i) (Env.mk 7)) ⟨4, mT a s⟩ (fun e E' st' => some (e, keepE E' [6, 3, 7, 2, 9] (Env.mk 7), (mT a s).map (fun p => find st'.mem p.1))) =
  (bif decide (Int.ofNat i < 12) then bif Int.ofNat i == 10 then bif true && okL (kf a.kn) a.kn.length [] then bif (add0 0 s.kn.length).ble s.kn.length then bif true && okL (kf s.kn) s.kn.length [] then bif (add0 0 (movR (stL a)).fst.kn.length).ble (movR (stL a)).fst.kn.length then bif (add0 0 (movR (stL s)).fst.kn.length).ble (movR (stL s)).fst.kn.length then bif true && okL (kf (movR (stL a)).fst.kn) (movR (stL a)).fst.kn.length [] then bif true && okL (kf (movR (stL s)).fst.kn) (movR (stL s)).fst.kn.length [] then bif (movR (stL a)).snd != 0 then some (.ret, slots (lT (.bool false) at1 i) (Env.mk 7), (mT a s).map fun p => some p.2) else bif bif false then true else (movR (stL s)).snd != 0 then some (.ret, slots (lT (.bool false) at1 i) (Env.mk 7), (mT a s).map fun p => some p.2) else bif bif false then true else (undR (stL (movR (stL a)).fst) (stL (movR (stL s)).fst)).snd != 0 then some 
    (.ret, slots (lT (.bool false) at1 i) (Env.mk 7), (mT a s).map fun p => some p.2) else bif bif false then true else !(undR (stL (movR (stL a)).fst) (stL (movR (stL s)).fst)).fst then some (.ret, slots (lT (.bool false) at1 i) (Env.mk 7), (mT a s).map fun p => some p.2) else some (.normal, nT at1 i, (mT a s).map fun p => some p.2) else none else none else none else none else none else none else none else bif Int.ofNat i == 11 then bif true && okL (kf a.kn) a.kn.length [] then bif (add0 0 s.kn.length).ble s.kn.length then bif true && okL (kf s.kn) s.kn.length [] then bif (add0 0 (calR (stL a)).fst.kn.length).ble (calR (stL a)).fst.kn.length then bif (add0 0 (calR (stL s)).fst.kn.length).ble (calR (stL s)).fst.kn.length then bif true && okL (kf (calR (stL a)).fst.kn) (calR (stL a)).fst.kn.length [] then bif true && okL (kf (calR (stL s)).fst.kn) (calR (stL s)).fst.kn.length [] then bif 
    (calR (stL a)).snd != 0 then some (.ret, slots (lT (.bool false) at1 i) (Env.mk 7), (mT a s).map fun p => some p.2) else bif bif false then true else (calR (stL s)).snd != 0 then some (.ret, slots (lT (.bool false) at1 i) (Env.mk 7), (mT a s).map fun p => some p.2) else bif bif false then true else (undR (stL (calR (stL a)).fst) (stL (calR (stL s)).fst)).snd != 0 then some (.ret, slots (lT (.bool false) at1 i) (Env.mk 7), (mT a s).map fun p => some p.2) else bif bif false then true else !(undR (stL (calR (stL a)).fst) (stL (calR (stL s)).fst)).fst then some (.ret, slots (lT (.bool false) at1 i) (Env.mk 7), (mT a s).map fun p => some p.2) else some (.normal, nT at1 i, (mT a s).map fun p => some p.2) else none else none else none else none else none else none else none else bif true && okL (kf a.kn) a.kn.length [] then bif (add0 0 s.kn.length).ble s.kn.length then bif true && okL (kf s.kn) 
    s.kn.length [] then bif (add0 0 (mdeR (stL a) (Int.ofNat i) at1).fst.kn.length).ble (mdeR (stL a) (Int.ofNat i) at1).fst.kn.length then bif (add0 0 (mdeR (stL s) (Int.ofNat i) at1).fst.kn.length).ble (mdeR (stL s) (Int.ofNat i) at1).fst.kn.length then bif true && okL (kf (mdeR (stL a) (Int.ofNat i) at1).fst.kn) (mdeR (stL a) (Int.ofNat i) at1).fst.kn.length [] then bif true && okL (kf (mdeR (stL s) (Int.ofNat i) at1).fst.kn) (mdeR (stL s) (Int.ofNat i) at1).fst.kn.length [] then bif (mdeR (stL a) (Int.ofNat i) at1).snd != 0 then some (.ret, slots (lT (.bool false) at1 i) (Env.mk 7), (mT a s).map fun p => some p.2) else bif bif false then true else (mdeR (stL s) (Int.ofNat i) at1).snd != 0 then some (.ret, slots (lT (.bool false) at1 i) (Env.mk 7), (mT a s).map fun p => some p.2) else bif bif false then true else (undR (stL (mdeR (stL a) (Int.ofNat i) at1).fst) (stL (mdeR (stL s) 
    (Int.ofNat i) at1).fst)).snd != 0 then some (.ret, slots (lT (.bool false) at1 i) (Env.mk 7), (mT a s).map fun p => some p.2) else bif bif false then true else !(undR (stL (mdeR (stL a) (Int.ofNat i) at1).fst) (stL (mdeR (stL s) (Int.ofNat i) at1).fst)).fst then some (.ret, slots (lT (.bool false) at1 i) (Env.mk 7), (mT a s).map fun p => some p.2) else some (.normal, nT at1 i, (mT a s).map fun p => some p.2) else none else none else none else none else none else none else none else some (.exit 0, slots (lT .any at1 i) (Env.mk 7), (mT a s).map fun p => some p.2)) := by kernel_rfl
theorem movR_of {t : St} (h : chkB t = true) : movR t = (movT t, 0) := by unfold movR; rw [h]; rfl
theorem calR_of {t : St} (h : chkB t = true) : calR t = (calT t, 0) := by unfold calR; rw [h]; rfl
theorem mdeR_of {t : St} {reg at1 : Int} (h : chkB t = true) (hi : inB reg at1 = true) : mdeR t reg at1 = (mdeT t reg.toNat (1 + at1), 0) := by unfold mdeR; rw [h, hi]; rfl
theorem roundT {a s : St} {at1 : Int} {i : Nat} (ha : chkB a = true) (hs : chkB s = true) (hu : Und a s) (h0 : 0 ≤ at1) (h1 : at1 < 256) (hi : i < 12) : evCode Try.prog KSD L0 (regB Try.prog) 90 14 (loopOf Try.prog 14 0) (slots (lT .any at1 i) (Env.mk 7)) ⟨4, mT a s⟩ (fun e E' st' => some (e, keepE E' [6, 3, 7, 2, 9] (Env.mk 7), (mT a s).map (fun p => find st'.mem p.1))) =
    some (.normal, slots (lT .any at1 (i + 1)) (Env.mk 7), (mT a s).map fun p => some p.2) := by
  have ca := chkB_iff.1 ha
  have cs := chkB_iff.1 hs
  have hn : nT at1 i = slots (lT .any at1 (i + 1)) (Env.mk 7) := by
    unfold nT
    rw [wrapNat (show i < 9223372036854775807 by omega)]; rfl
  have hd : decide (Int.ofNat i < 12) = true := decide_eq_true (by simp; omega)
  have hid : idB (1 + at1) = true := by simp [idB]; omega
  rw [evT, hn]
  simp only [stL_eq, okL_kf, kl_kf, hd, movR_of ha, movR_of hs, calR_of ha, calR_of hs, add0_zero, ble_self, Bool.and_self, Bool.true_and, cond_true, cond_false]
  cases e10 : (Int.ofNat i == 10) with
  | true =>
    have c1 := movT_chk ca
    have c2 := movT_chk cs
    have u : undR (movT a) (movT s) = (true, 0) := by rw [undR_of (chkB_iff.2 c1) (chkB_iff.2 c2), (undT_iff c1 c2).2 (movT_und ca hu)]
    simp only [u, cond_true, cond_false]
    rfl
  | false =>
    cases e11 : (Int.ofNat i == 11) with
    | true =>
      have c1 := calT_chk ca
      have c2 := calT_chk cs
      have u : undR (calT a) (calT s) = (true, 0) := by rw [undR_of (chkB_iff.2 c1) (chkB_iff.2 c2), (undT_iff c1 c2).2 (calT_und hu)]
      simp only [u, cond_true, cond_false]
      rfl
    | false =>
      have h10 : i ≠ 10 := fun e => by subst e; cases e10
      have h11 : i ≠ 11 := fun e => by subst e; cases e11
      have hin : inB (Int.ofNat i) at1 = true := by
        unfold inB
        rw [decide_eq_true (show 0 ≤ Int.ofNat i by simp), decide_eq_true (show Int.ofNat i < 10 by simp; omega), decide_eq_true h0, decide_eq_true h1]; rfl
      have c1 := mdeT_chk (reg := (Int.ofNat i).toNat) ca hid
      have c2 := mdeT_chk (reg := (Int.ofNat i).toNat) cs hid
      have u : undR (mdeT a (Int.ofNat i).toNat (1 + at1)) (mdeT s (Int.ofNat i).toNat (1 + at1)) = (true, 0) := by rw [undR_of (chkB_iff.2 c1) (chkB_iff.2 c2), (undT_iff c1 c2).2 (mdeT_und ca cs hid hu)]
      simp only [mdeR_of ha hin, mdeR_of hs hin, u, add0_zero, ble_self, okL_kf, kl_kf, stL_eq, cond_true, cond_false]
      rfl
def fLoopT (R : Type) (E : Env) (st : AS) : Option ((EK → Env → AS → Option R) → Option R) :=
  some fun k => match E.get 3, E.get 7, E.get 2, E.get 9, st.mem with
  | .ptr 0 [] 0, .ptr 3 [] 0, .int .i64 at1, .int .i64 i, [(0, ra), (1, _), (2, .cells [.arr 2 N fk uk] true tip), (3, .cells [.arr 5 10 f us, .arr 2 8 g vs, .slc 2 [] 0 0 2 n c] true false)] =>
    bif (Nat.beq st.next 4 && decide (i = 0)) && ((okA vOk 10 f us && okA sOk 8 g vs) && (okL fk N uk && (decide (n = N) && decide (c = N)))) && (decide (0 ≤ at1) && decide (at1 < 256)) then rowK ra fun a =>
      bif chkB a && chkB ⟨fun i => vOf (elt us f i), fun i => sOf (elt vs g i), kl fk N uk⟩ && undT a ⟨fun i => vOf (elt us f i), fun i => sOf (elt vs g i), kl fk N uk⟩ then
        k .normal (slots [] (Env.mk 7)) ⟨4, mT a ⟨fun i => vOf (elt us f i), fun i => sOf (elt vs g i), kl fk N uk⟩⟩ else none else none
  | _, _, _, _, _ => none
theorem okLoopT : LoopFn Try.prog 14 0 fLoopT := fun R E st G h hs nb hnb k y hk => by
  unfold fLoopT at h
  simp only [Option.some.injEq] at h
  subst h
  dsimp only at hk
  split at hk
  · rename_i at1 i ra r1 N fk uk tip f us g vs n c g3 g7 g2 g9 hm
    obtain ⟨hc, hk1⟩ := cond_some hk
    clear hk
    simp only [Bool.and_eq_true, decide_eq_true_eq] at hc
    obtain ⟨⟨⟨c1, c3⟩, ⟨c4, c5⟩, c6, c7, c8⟩, c9, c10⟩ := hc
    have d1 := Nat.eq_of_beq_eq_true c1
    clear c1
    obtain ⟨next, mem⟩ := st
    dsimp only at hm d1
    subst hm; subst d1; subst c3; subst c7; subst c8
    obtain ⟨a, hk1, oa, ha⟩ := rowK_ok hk1
    obtain ⟨hc2, hk1⟩ := cond_some hk1
    simp only [Bool.and_eq_true] at hc2
    obtain ⟨⟨k1, k2⟩, k3⟩ := hc2
    generalize hS : (⟨fun i => vOf (elt us f i), fun i => sOf (elt vs g i), kl fk c uk⟩ : St) = s at k2 k3 hk1
    have hr : ∀ i, i < 10 → vc (s.r i) = elt us f i := fun i hi => by rw [← hS]; exact vc_of (okA_at c4 hi)
    have hs2 : ∀ i, i < 8 → sc (s.s i) = elt vs g i := fun i hi => by rw [← hS]; exact sc_of (okA_at c5 hi)
    have hkn : s.kn = kl fk c uk := by rw [← hS]
    have hlen : s.kn.length = c := by rw [hkn]; exact kl_length ..
    have hu := (undT_iff (chkB_iff.1 k1) (chkB_iff.1 k2)).1 k3
    have hl := loop_allC (nb := nb) (q := 4) (d := 7) (fuel := 90) (ts := [6, 3, 7, 2, 9]) KSD_ok l0_ok (g := 14) (id := 0) 12 (fun _ => true) (fun i => lT .any at1 i) (fun i => lT .any at1 i) (mT a s) [] [] hs hnb (fun _ => rfl) (fun _ => rfl) rfl (fun p hp => by cases hp) (fun i p hp => by cases hp) (fun i hi => roundT k1 k2 hu c9 c10 hi) (evT a s at1 12)
    have hall : (List.range 12).all (fun _ => true) = true := rfl
    rw [hall] at hl
    have hw : Weak nb (szOf Try.prog 14) E ⟨4, [(0, ra), (1, r1), (2, .cells [.arr 2 c fk uk] true tip), (3, .cells [.arr 5 10 f us, .arr 2 8 g vs, .slc 2 [] 0 0 2 c c] true false)]⟩ (slots (lT .any at1 0) (Env.mk 7)) ⟨4, mT a s⟩ := weak_pull _root_.id (fun _ _ => rfl) hnb (fun p hp κ z hz => by
      simp only [lT, List.mem_cons, List.not_mem_nil, or_false] at hp
      rcases hp with rfl | rfl | rfl | rfl | rfl
      · exact vrel_any _ _
      · dsimp only at hz; rw [g3] at hz; exact VRel.pull_ptr rfl (by dsimp only; omega) hz
      · dsimp only at hz; rw [g7] at hz; exact VRel.pull_ptr rfl (by dsimp only; omega) hz
      · dsimp only at hz; rw [g2] at hz; exact VRel.pull rfl hz
      · dsimp only at hz; rw [g9] at hz; exact VRel.pull rfl hz) (fun q r2 hf => by
      have hp := find_mem _ _ _ hf
      simp only [mT, List.mem_cons, List.not_mem_nil, or_false, Prod.mk.injEq] at hp
      rcases hp with ⟨rfl, rfl⟩ | ⟨rfl, rfl⟩ | ⟨rfl, rfl⟩
      · exact ⟨_, rfl, ha _ _ _ (by dsimp only; omega), fun _ => oa⟩
      · refine ⟨_, rfl, ?_, fun _ => rfl⟩
        show RowLe _ _ _ _ (.cells [.arr 2 s.kn.length (kf s.kn) []] true true)
        rw [hlen, hkn]
        exact RowLe.arr (by dsimp only; omega) (fun h => by cases h) (fun i hi => kf_kl c6 hi)
      · refine ⟨_, rfl, ?_, fun _ => rfl⟩
        show RowLe _ _ _ _ (.cells [regA s.r, sltA s.s, .slc 2 [] 0 0 2 s.kn.length s.kn.length] true false)
        rw [hlen]
        exact RowLe.toldC (by dsimp only; omega) fun κ zs hz => CRel.arr_to (κ.pull_nl _ _) hr (fun _ h => CRel.arr_to (κ.pull_nl _ _) hs2 (fun _ h => CRel.last_to (fun y hy => VRel.pull_slc rfl (by dsimp only; omega) hy) rfl h) h) hz) (fun _ _ _ _ _ _ h => h)
    exact ⟨.exit 0, _, _, hk1, Nat.le_refl _, hl.weak hw⟩
  · cases hk
def LSE : LT := addL 14 0 fLoopT L0
theorem LSE_ok : LOk Try.prog LSE := addL_ok sprog_ok.1 (by kernel_rfl) okLoopT l0_ok
end Go.Sv
