/- The evaluator and the contracts that the walk leans on, part Bv: P7, P8, SvO3. -/
import Derived.Test.YtmegbaeclpoidaaBu
import Derived.ChangeSlices
namespace Go.Sv
open Go.RowKit Go.Proofs
set_option linter.unusedSimpArgs false
set_option linter.unusedVariables false
theorem wrap_u64 {x : Int} (h : 0 ≤ x) (h' : x < 18446744073709551616) : IntKind.wrap .u64 x = x := by simp [IntKind.wrap, IntKind.bits, IntKind.signed]; omega
theorem wrap_u64_rng (x : Int) : 0 ≤ IntKind.wrap .u64 x ∧ IntKind.wrap .u64 x < 18446744073709551616 := by simp [IntKind.wrap, IntKind.bits, IntKind.signed]; omega
theorem hasF_iff {s : Int × Int} {n : Int} : hasF s n = true ↔ s.1 ≤ n ∧ n ≤ s.2 := by
  unfold hasF
  simp only [Bool.and_eq_true, decide_eq_true_eq]
theorem allB_iff {s : Int × Int} : allB s = true ↔ s.1 = 0 ∧ s.2 = 18446744073709551615 := by
  unfold allB
  simp only [Bool.and_eq_true, beq_iff_eq]
theorem modS_eq {s : Int × Int} (hs : SpOk s) (h : s.1 ≤ s.2) (ha : allB s = false) : modS s = s.2 - s.1 + 1 := by
  have hn : ¬ (s.1 = 0 ∧ s.2 = 18446744073709551615) := fun h => by rw [allB_iff.2 h] at ha; cases ha
  obtain ⟨⟨h1, h2⟩, h3, h4⟩ := hs
  unfold modS
  rw [wrap_u64 (x := s.2 - s.1) (by omega) (by omega), wrap_u64 (by omega) (by omega)]
theorem okS_of {s : Int × Int} (hs : SpOk s) (h : s.1 ≤ s.2) : okS s = true := by
  unfold okS
  cases ha : allB s with
  | true => rfl
  | false =>
    rw [modS_eq hs h ha, decide_eq_false (show ¬ s.2 - s.1 + 1 = 0 by omega)]; rfl
theorem pic_in {s : Int × Int} (hs : SpOk s) (h : s.1 ≤ s.2) {n : Int} (h0 : 0 ≤ n) (h1 : n < 18446744073709551616) : hasF s (picF s n) = true := by
  unfold picF
  cases ha : allB s with
  | true =>
    obtain ⟨q1, q2⟩ := allB_iff.1 ha
    rw [hasF_iff, q1, q2]
    simp only [cond_true]
    omega
  | false =>
    simp only [cond_false]
    rw [modS_eq hs h ha, Int.tmod_eq_emod_of_nonneg h0]
    obtain ⟨⟨h2, h3⟩, h4, h5⟩ := hs
    have m1 := Int.emod_nonneg n (show s.2 - s.1 + 1 ≠ 0 by omega)
    have m2 := Int.emod_lt_of_pos n (show 0 < s.2 - s.1 + 1 by omega)
    rw [wrap_u64 (by omega) (by omega), hasF_iff]
    omega
theorem dr_rng : ∀ (d : Int) (i : Nat), 0 ≤ drN d (i + 1) ∧ drN d (i + 1) < 18446744073709551616 := fun d i => wrap_u64_rng _
theorem idR_of {v : Vw} (h : mayF v = true) : idR v = true := by
  unfold idR
  cases h2 : (v.k == 2) with
  | false => rfl
  | true =>
    have hk : v.k = 2 := by simpa using h2
    unfold mayF at h
    rw [hk] at h
    have h1 : ptrB 2 v.a v.b v.i v.o = true := h
    simp only [ptrB, Bool.and_eq_true] at h1
    exact h1.2.1
theorem okR_of {v : Vw} (hv : VwOk v) (h : mayF v = true) : okR v = true := by
  unfold okR
  rw [idR_of h]
  cases h1 : (v.k == 1) with
  | false => rfl
  | true =>
    have hk : v.k = 1 := by simpa using h1
    obtain ⟨_, _, h3⟩ := may_num h hk
    exact okS_of (s := (v.a, v.b)) ⟨hv.a, hv.b⟩ h3
theorem kn_id {X : List (Int × Int)} (h : chkE X = 0) : X.all (fun k => idB k.1) = true := List.all_eq_true.2 fun p hp => ((chk_book (chkE_zero h).2).ok p hp).1
theorem idT_of {t : St} (h : ChkOk t) : idT t = true := by
  unfold idT
  have h1 : (List.range 10).all (fun i => idR (t.r i)) = true := List.all_eq_true.2 fun i hi => idR_of (h.r i (List.mem_range.1 hi))
  have h3 : Nat.ble t.kn.length LIM = true := len_LIM h.kn
  rw [h1, kn_id h.kn, h3]; rfl
theorem okF_of {t : St} (o : StOk t) (h : ChkOk t) : okF t = true := by
  unfold okF
  have h1 : (List.range 10).all (fun i => okR (t.r i)) = true := List.all_eq_true.2 fun i hi => okR_of (o.r i (List.mem_range.1 hi)) (h.r i (List.mem_range.1 hi))
  have h2 : (List.range 8).all (fun i => okS (t.s i)) = true := List.all_eq_true.2 fun i hi => okS_of (o.s i (List.mem_range.1 hi)) (sOkB_iff.1 (h.s i (List.mem_range.1 hi)))
  have h3 : Nat.ble t.kn.length LIM = true := len_LIM h.kn
  rw [h1, h2, h3]; rfl
/-- What a world has to be for a state to be true of it. -/
structure Hol (W : Wd) (t : St) : Prop where
  r : ∀ i, i < 10 → hoB W (t.r i) (W.r i) = true
  s : ∀ i, i < 8 → hasF (t.s i) (W.sl i) = true
  kn : ∀ p ∈ t.kn, knB W p = true
theorem holW_iff {W : Wd} {t : St} : holW7 W t = true ↔ Hol W t := by
  unfold holW7
  simp only [Bool.and_eq_true, List.all_eq_true, List.mem_range]
  constructor
  · rintro ⟨h1, h2, h3⟩
    refine ⟨h1, h2, fun p hp => ?_⟩
    obtain ⟨i, hi, rfl⟩ := List.getElem_of_mem hp
    have := h3 i hi
    rwa [List.getD_eq_getElem?_getD, List.getElem?_eq_getElem hi] at this
  · intro h
    refine ⟨h.r, h.s, fun i hi => ?_⟩
    rw [List.getD_eq_getElem?_getD, List.getElem?_eq_getElem hi]
    exact h.kn _ (List.getElem_mem hi)
theorem hoB_mono {W : Wd} {v w : Vw} {x : Int × Int × Int} (h : hoB W v x = true) (hs : sayV v w = true) : hoB W w x = true := by
  rcases sayV_iff.1 hs with g | ⟨g1, g2, g3, g4⟩ | g
  · unfold hoB
    rw [g]; rfl
  · unfold hoB at h ⊢
    rw [g1] at h
    rw [g2]
    have h : (x.1 == 1 && hasF (v.a, v.b) x.2.1) = true := h
    show (x.1 == 1 && hasF (w.a, w.b) x.2.1) = true
    simp only [Bool.and_eq_true, hasF_iff] at h ⊢
    exact ⟨h.1, by omega, by omega⟩
  · subst g; exact h
/-- Where the bytes that are known lie in the packet. -/
def PlOk (W : Wd) : Prop := ∀ j : Nat, -3000 ≤ W.pl j ∧ W.pl j ≤ 3000
theorem knB_iff {W : Wd} {p : Int × Int} (hW : PlOk W) (h : 0 ≤ p.2 ∧ p.2 ≤ 2048) : knB W p = true ↔ W.pl p.1.toNat + p.2 ≤ W.L := by
  have := hW p.1.toNat
  unfold knB
  rw [wrap_in64 (by omega) (by omega)]
  simp only [Bool.not_eq_true', decide_eq_false_iff_not]
  omega
theorem hol_mono {W : Wd} {a t : St} (hW : PlOk W) (ca : ChkOk a) (ct : ChkOk t) (h : Hol W a) (hu : Und a t) : Hol W t := by
  refine ⟨fun i hi => hoB_mono (h.r i hi) (hu.r i hi), fun i hi => ?_, fun p hp => ?_⟩
  · have h1 := hasF_iff.1 (h.s i hi)
    have h2 := sUnd_iff.1 (hu.s i hi)
    exact hasF_iff.2 ⟨by omega, by omega⟩
  · have bt := chk_book (chkE_zero ct.kn).2
    have e := bytF_of_mem bt.nodup hp
    have hr := (chk_sorted t.kn _ (chkE_zero ct.kn).2).1 _ hp
    have hj := hu.kn p.1
    rw [e] at hj
    have hb := bytF_le (chkE_zero ca.kn).2 p.1
    have hm : p.1 ∈ a.kn.map (·.1) := Classical.byContradiction fun hn => by
      rw [bytF_zero hn] at hj; omega
    have h2 := (knB_iff hW (p := (p.1, bytF p.1 a.kn)) hb).1 (h.kn _ (bytF_mem hm))
    exact (knB_iff hW ⟨by omega, by omega⟩).2 (by dsimp only at h2; omega)
end Go.Sv
namespace Go.Sv
open Go.RowKit Go.Proofs
set_option linter.unusedSimpArgs false
set_option linter.unusedVariables false
theorem drF_nn (ns : List Int) (d : Int) (h : 0 ≤ d) (i : Nat) : 0 ≤ drF ns d i := by
  unfold drF
  generalize ns.take i = l
  induction l generalizing d with
  | nil => exact h
  | cons x r ih => exact ih _ (wrap_u64_rng _).1
theorem plF_eq {a : St} {d : Int} {j : Nat} (ca : ChkOk a) (h : 0 ≤ d) : ∃ x, bytF (Int.ofNat j) a.kn ≤ x ∧ 0 ≤ x ∧ x ≤ 2048 ∧ plF a d j = 2048 - x := by
  have hb := bytF_le (chkE_zero ca.kn).2 (Int.ofNat j)
  have m1 := Int.emod_nonneg d (show (64 : Int) ≠ 0 by omega)
  have m2 := Int.emod_lt_of_pos d (show (0 : Int) < 64 by omega)
  have e : IntKind.i64.wrap (d.tmod 64) = d % 64 := by
    rw [Int.tmod_eq_emod_of_nonneg h]
    exact wrap_in64 (by omega) (by omega)
  unfold plF
  rw [e]
  by_cases hd : d % 64 > bytF (Int.ofNat j) a.kn
  · rw [decide_eq_true hd, cond_true]
    exact ⟨d % 64, by omega, by omega, by omega, wrap_in64 (by omega) (by omega)⟩
  · rw [decide_eq_false hd, cond_false]
    exact ⟨bytF (Int.ofNat j) a.kn, by omega, by omega, by omega, wrap_in64 (by omega) (by omega)⟩
theorem fit_pl (a : St) (ns : List Int) (j : Nat) (h : j < 257) : (fitW a ns).pl j = bif Nat.beq j 0 then 0 else plF a (drF ns 17 (min ns.length 40)) j := curG_end (fun j => bif Nat.beq j 0 then W00.pl 0 else plF a (drF ns 17 (min ns.length 40)) j) W00.pl 257 j h
theorem fit_plOk {a : St} (ca : ChkOk a) (ns : List Int) : PlOk (fitW a ns) := fun j => by
  by_cases h : j < 257
  · rw [fit_pl a ns j h]
    obtain ⟨x, h1, h2, h3, h4⟩ := plF_eq (j := j) ca (drF_nn ns 17 (by omega) (min ns.length 40))
    rw [h4]
    cases Nat.beq j 0
    · simp only [cond_false]; omega
    · simp only [cond_true]; omega
  · have : (fitW a ns).pl j = 0 := by
      have e : (fitW a ns).pl j = curG (fun j => bif Nat.beq j 0 then W00.pl 0 else plF a (drF ns 17 (min ns.length 40)) j) W00.pl 257 j := rfl
      rw [e]
      unfold curG
      have hb : Nat.blt j 257 = false := by
        cases hh : Nat.blt j 257 with
        | false => rfl
        | true => rw [Nat.blt_eq] at hh; exact absurd hh h
      rw [hb]; rfl
    rw [this]; omega
theorem fit_hol {a : St} (oa : StOk a) (ca : ChkOk a) (ns : List Int) : Hol (fitW a ns) a := by
  refine ⟨fun i hi => ?_, fun i hi => ?_, fun p hp => ?_⟩
  · have hx : (fitW a ns).r i = ((a.r i).k, valR (fitW a ns) (a.r i) (drN (drF ns 17 (min ns.length 40)) (i + 1)), 0) := curG_end (fun j => ((a.r j).k, valR (plcW W00 a (drF ns 17 (min ns.length 40)) 257) (a.r j) (drN (drF ns 17 (min ns.length 40)) (j + 1)), 0)) W00.r 10 i hi
    rw [hx]
    have hm := ca.r i hi
    have hv := oa.r i hi
    generalize a.r i = v at hm hv
    unfold hoB valR
    cases h1 : (v.k == 1) with
    | true =>
      have hk : v.k = 1 := by simpa using h1
      obtain ⟨_, _, h3⟩ := may_num hm hk
      obtain ⟨d1, d2⟩ := dr_rng (drF ns 17 (min ns.length 40)) i
      have := pic_in (s := (v.a, v.b)) ⟨hv.a, hv.b⟩ h3 d1 d2
      simp only [cond_true, h1, this, Bool.and_self]
    | false =>
      cases h2 : (v.k == 2) with
      | true => simp only [cond_true, cond_false, h2, beq_self_eq_true, Bool.and_self]
      | false =>
        cases h3 : (v.k == 3) with
        | true => simp only [cond_true, cond_false, h3, beq_self_eq_true, Bool.and_self]
        | false => rfl
  · have hx : (fitW a ns).sl i = picF (a.s i) (drN (drN (drF ns 17 (min ns.length 40)) 10) (i + 1)) := curG_end (fun j => picF (a.s j) (drN (drN (drF ns 17 (min ns.length 40)) 10) (j + 1))) W00.sl 8 i hi
    rw [hx]
    obtain ⟨d1, d2⟩ := dr_rng (drN (drF ns 17 (min ns.length 40)) 10) i
    exact pic_in (oa.s i hi) (sOkB_iff.1 (ca.s i hi)) d1 d2
  · have bt := chk_book (chkE_zero ca.kn).2
    have e := bytF_of_mem bt.nodup hp
    have hr := (chk_sorted a.kn _ (chkE_zero ca.kn).2).1 _ hp
    have hid := hr.2.1
    simp only [idB, Bool.and_eq_true, decide_eq_true_eq] at hid
    refine (knB_iff (fit_plOk ca ns) ⟨by omega, by omega⟩).2 ?_
    have hL : (fitW a ns).L = 2048 := rfl
    rw [fit_pl a ns _ (by omega), hL]
    obtain ⟨x, h1, h2, h3, h4⟩ := plF_eq (j := p.1.toNat) ca (drF_nn ns 17 (by omega) (min ns.length 40))
    have he : Int.ofNat p.1.toNat = p.1 := by simp; omega
    rw [he, e] at h1
    rw [h4]
    cases Nat.beq p.1.toNat 0
    · simp only [cond_false]; omega
    · simp only [cond_true]; omega

/-! ### turned -/
theorem und_mov {a : St} (ca : ChkOk a) : Und a (movT a) := ⟨fun i hi => by
  show sayV (a.r i) (movV (a.r i)) = true
  unfold movV
  cases ((a.r i).k == 2 || (a.r i).k == 3)
  · exact say_refl _
  · exact sayV_iff.2 (.inl rfl), fun i _ => sUnd_iff.2 ⟨by show (a.s i).1 ≤ (a.s i).1; omega, by show (a.s i).2 ≤ (a.s i).2; omega⟩, fun j => (bytF_le (chkE_zero ca.kn).2 j).1⟩
theorem cal_hol {W : Wd} {a : St} {N : Int} (h : Hol W a) (h0 : 0 ≤ N) (h1 : N < 18446744073709551616) : Hol (w1 W N) (calT a) := by
  refine ⟨fun i hi => ?_, h.s, h.kn⟩
  match i, hi with
  | 0, _ =>
    show (true && hasF (0, 18446744073709551615) N) = true
    rw [Bool.true_and, hasF_iff]
    exact ⟨h0, by dsimp only; omega⟩
  | 1, _ => rfl
  | 2, _ => rfl
  | 3, _ => rfl
  | 4, _ => rfl
  | 5, _ => rfl
  | 6, _ => exact h.r 6 (by omega)
  | 7, _ => exact h.r 7 (by omega)
  | 8, _ => exact h.r 8 (by omega)
  | 9, _ => exact h.r 9 (by omega)
theorem w2_pl (W : Wd) (r : Int) (j : Nat) (h : j ≠ 8) : (w2 W r).pl j = W.pl j := by
  show pOf (bif Nat.beq j 8 then pc 3 else pc (W.pl j)) = _
  rw [beq_no h]; rfl
theorem made_hol {W : Wd} {a : St} {r : Int} (hW : PlOk W) (ca : ChkOk a) (h : Hol W a) : Hol (w2 W r) (mdeT a r.toNat 8) := by
  refine ⟨fun i hi => ?_, h.s, fun p hp => ?_⟩
  · have e1 : (w2 W r).r i = bif Nat.beq i r.toNat then (2, 3, 0) else W.r i := by
      show rOfW (bif Nat.beq i r.toNat then rc (2, 3, 0) else rc (W.r i)) = _
      cases Nat.beq i r.toNat <;> rfl
    have e2 : (mdeT a r.toNat 8).r i = bif Nat.beq i r.toNat then ptrV 8 else mdeV 8 (a.r i) := rfl
    rw [e1, e2]
    cases Nat.beq i r.toNat with
    | true => rfl
    | false =>
      simp only [cond_false]
      have hr := h.r i hi
      have hm := ca.r i hi
      generalize a.r i = v at hr hm
      unfold mdeV
      cases hc : (v.k == 2 && v.i == 8) with
      | true => rfl
      | false =>
        simp only [cond_false]
        unfold hoB at hr ⊢
        cases h2 : (v.k == 2) with
        | false =>
          rw [h2] at hr
          exact hr
        | true =>
          have hk : v.k = 2 := by simpa using h2
          have h1 : (v.k == 1) = false := by rw [hk]; rfl
          have hid := idR_of hm
          unfold idR at hid
          rw [h2] at hid
          have hid : idB v.i = true := hid
          simp only [idB, Bool.and_eq_true, decide_eq_true_eq] at hid
          rw [h2, Bool.true_and] at hc
          have h8 : v.i ≠ 8 := by simpa using hc
          have hu : u64p (w2 W r) v = u64p W v := by
            unfold u64p
            rw [w2_pl W r _ (by omega)]
          rw [h1, h2] at hr
          simp only [cond_true, cond_false] at hr ⊢
          rw [h1, hu]
          exact hr
  · have hid : idB 8 = true := rfl
    obtain ⟨f1, f2, f3⟩ := frg_byt ca.kn hid
    have bt := chk_book (chkE_zero f1).2
    have e := bytF_of_mem bt.nodup hp
    have hr := (chk_sorted _ _ (chkE_zero f1).2).1 _ hp
    rw [f3 p.1] at e
    have hne : p.1 ≠ 8 := fun he => by rw [if_pos he] at e; omega
    rw [if_neg hne] at e
    have hi := hr.2.1
    simp only [idB, Bool.and_eq_true, decide_eq_true_eq] at hi
    have hm : p.1 ∈ a.kn.map (·.1) := Classical.byContradiction fun hn => by
      rw [bytF_zero hn] at e; omega
    have hk := h.kn _ (bytF_mem hm)
    rw [e] at hk
    have h2 := (knB_iff hW (p := (p.1, p.2)) ⟨by dsimp only; omega, by dsimp only; omega⟩).1 hk
    unfold knB
    rw [w2_pl W r _ (by omega)]
    exact hk
end Go.Sv
namespace Go.Sv
open Go.RowKit Go.WideShapes Go.ChangeShapes
def nkf (k : IntKind) (xs : List Int) (i : Nat) : List AV := [.int k (xs.getD i 0)]
section
variable {H : Type} {enc : TypeId × Value → H} {P : Program} {w : World} {base : Nat} {held : Bool}
/-- A list of numbers, as the evaluator takes it: its cell. -/
theorem trod_nums {t e : TypeId} {k : IntKind} {fuel : Nat} {cs0 : List Value} {d : DataW H} {p : List MemPlace} (ht : P.underlying t = some (.slice e)) (he : P.underlying e = some (.int k)) (ce : P.cellsOf e = 1)
    (hf : DataW.trod enc P w base (fun _ => true) held fuel t cs0 = some (d, p)) :
    ∃ (v : Value) (xs : List Int), cs0 = [v] ∧ (∀ gh, VRel (kapOf w gh) (.lst 1 (nkf k xs) xs.length []) v) ∧ (∀ x ∈ xs, (Lit.int k x).wf = true) ∧ (xs = [] ∨ ∃ es sp, d = .slice es sp ∧ es.length = xs.length) := by
  rcases open_ints ht he ce hf with ⟨hcs, _⟩ | ⟨a, len, cap, zs, hcsV, _, hlc, _, hm, hx, hcell, hwf⟩
  · exact ⟨_, [], hcs, fun gh => .lst0 1 0 _ [] none .nil, by simp, .inl rfl⟩
  · simp only [if_true] at hm
    let xs : List Int := zs.take len
    have hlen : xs.length = len := by simp [xs]; omega
    have hget : ∀ i, i < len → xs.getD i 0 = zs.getD i 0 := fun i hi => by
      simp only [xs, List.getD_eq_getElem?_getD, List.getElem?_take, if_pos hi]
    refine ⟨_, xs, hcsV, fun gh => ?_, fun x hx' => hwf x (List.mem_of_mem_take hx'), .inr ?_⟩
    · rw [hlen]
      by_cases hl : len = 0
      · subst hl; exact .lst0 1 cap _ [] _ .nil
      · obtain ⟨cs, e', fr, hb, hc0⟩ := (cell_get (hcell 0 (by omega))).2
        have hspot : a.spot = none := by
          have := (cell_get (hcell 0 (by omega))).1
          have e0 : a.add 0 = a := by simp [Addr.add]
          rw [e0] at this; exact this
        rw [(add_block a 0).1] at hb
        have hcs : ∀ i, i < len → cs[a.off + i]? = some (.int k (zs.getD i 0)) := fun i hi => by
          have g1 := hcell i (by omega)
          obtain ⟨_, cs1, _, _, q1, q2⟩ := cell_get g1
          rw [(add_block _ _).1, hb] at q1
          rw [(add_block _ _).2] at q2
          simp only [Option.some.injEq, Obj.cells.injEq] at q1
          obtain ⟨rfl, _⟩ := q1
          exact q2
        obtain ⟨blk, off, spot⟩ := a
        dsimp only at hspot hb hcs
        subst hspot
        have hlast := hcs (len - 1) (by omega)
        have hsz : off + len * 1 ≤ cs.toList.length := by
          have := (Array.getElem?_eq_some_iff.1 hlast).1
          simp; omega
        have htl : ∀ j : Nat, cs.toList[j]? = cs[j]? := fun j => Array.getElem?_toList
        refine .lst 1 len blk off cap (nkf k xs) [] cs.toList (kapOf_st hb) hsz hlc (fun z hz => ?_) (fun i _ => rfl) (fun i hi => ?_) .nil
        · obtain ⟨j, hj⟩ := List.mem_iff_getElem?.1 hz
          rw [List.getElem?_take] at hj
          split at hj
          · rename_i hj2
            rw [List.getElem?_drop, htl, hcs j (by omega)] at hj
            cases hj; rfl
          · cases hj
        · have e1 : (cs.toList.drop (off + i * 1)).take 1 = [.int k (zs.getD i 0)] := by
            apply List.ext_getElem?
            intro j
            rw [List.getElem?_take]
            split
            · rename_i hj
              rw [List.getElem?_drop, htl]
              match j, hj with
              | 0, _ => simpa using hcs i hi
            · rename_i hj
              exact (List.getElem?_eq_none (show ([Value.int k (zs.getD i 0)] : List Value).length ≤ j from by show 1 ≤ j; omega)).symm
          rw [e1]
          show CRel _ (nkf k xs i) _
          unfold nkf
          rw [hget i hi]
          exact .int _ _ .nil
    · simp only [Prod.mk.injEq] at hx
      exact ⟨_, _, hx.1, by rw [hlen]; simp [lits]; omega⟩
/-- .. as an argument. -/
theorem open_nums {t e : TypeId} {k : IntKind} {r : Reach} {b0 : Nat} {v : Value} {d : DataW H} {p : List MemPlace} (ht : P.underlying t = some (.slice e)) (he : P.underlying e = some (.int k)) (ce : P.cellsOf e = 1)
    (hval : Value.okWide P w r b0 t v) (h : DataW.Trod enc P w base (fun _ => true) held t v d p) :
    ∃ xs : List Int, (∀ gh, VRel (kapOf w gh) (.lst 1 (nkf k xs) xs.length []) v) ∧ (∀ x ∈ xs, (Lit.int k x).wf = true) ∧ (xs = [] ∨ ∃ es sp, d = .slice es sp ∧ es.length = xs.length) := by
  obtain ⟨a0, len0, cap0, rfl⟩ := okWide_slice ht hval
  obtain ⟨fuel, hf⟩ := h
  obtain ⟨v, xs, hv, h1, h2, h3⟩ := trod_nums ht he ce hf
  simp [Value.cells] at hv
  subst hv
  exact ⟨xs, h1, h2, h3⟩
end
end Go.Sv
