/- The evaluator and the contracts that the walk leans on, part Bh: CE. -/
import Derived.Test.YtmegbaeclpoidaaBg
namespace Go.Sv
open Go.RowKit Go.Proofs

/-! ### the loop over a book -/
def joinP (xs ys : List (Int × Int)) : List (Int × Int) :=
  match xs with
  | [] => []
  | x :: r => bif hasId x.1 ys then (x.1, bif decide (bytF x.1 ys < x.2) then bytF x.1 ys else x.2) :: joinP r ys else joinP r ys
theorem pt_ints {xs : List (Int × Int)} : ∀ {l : Ents3}, PT xs l → intsOk l = true := by
  induction xs with
  | nil =>
    intro l h
    cases l with
    | nil => rfl
    | cons e l => simp [PT] at h
  | cons x r ih =>
    intro l h
    cases l with
    | nil => rfl
    | cons e l =>
      obtain ⟨x', r', hx, he, hr⟩ := pt_cons h
      simp only [List.cons.injEq] at hx
      obtain ⟨rfl, rfl⟩ := hx
      rw [he]
      show intsOk l = true
      exact ih hr
theorem pt_get {id : Int} : ∀ {l : Ents3} {xs : List (Int × Int)}, PT xs l → mapGet l (.i id) = bif hasId id xs then some (AV.int .i64 (bytF id xs)) else none := fun {l xs} h => by
  have h1 := pt_look id h
  rw [lookK_eq] at h1
  cases hg : mapGet l (.i id) with
  | none => rw [hg] at h1; simpa using h1
  | some v => rw [hg] at h1; simpa using h1
theorem pt_turned {ys : List (Int × Int)} {lb : Ents3} (hb : PT ys lb) {S : List Nat} : ∀ {xs : List (Int × Int)} {l : Ents3}, PT xs l → (∀ e ∈ l, e.2.1 ∈ S) → PT (joinP xs ys) (turned (joinF lb) S l) := by
  intro xs
  induction xs with
  | nil =>
    intro l h _
    cases l with
    | nil => rfl
    | cons e l => simp [PT] at h
  | cons x r ih =>
    intro l h hS
    cases l with
    | nil => simp [PT] at h
    | cons e l =>
      obtain ⟨x', r', hx, he, hr⟩ := pt_cons h
      simp only [List.cons.injEq] at hx
      obtain ⟨rfl, rfl⟩ := hx
      have hs := hS e (List.mem_cons_self ..)
      have ih := ih hr fun e he => hS e (List.mem_cons_of_mem _ he)
      rw [he] at hs ⊢
      simp only [turned, if_pos hs, joinF, joinP, pt_get hb]
      cases hasId x.1 ys with
      | true =>
        simp only [cond_true, PT, List.map_cons]
        rw [show (turned (joinF lb) S l).map (fun e => (e.1, e.2.2)) = (joinP r ys).map (fun x => (Key.i x.1, AV.int .i64 x.2)) from ih]
      | false => exact ih
theorem two_own {κ : Kap} {r0 r1 s0 s1 : Row} {b : Nat} (h0 : r0.own = true → s0.own = true) (h1 : r1.own = true → s1.own = true) (h : owned κ (find [(0, r0), (1, r1)]) b) : owned κ (find [(0, s0), (1, s1)]) b := by
  obtain ⟨n, r, g1, g2, g3⟩ := h
  have hp := find_mem _ _ _ g1
  simp only [List.mem_cons, List.not_mem_nil, or_false, Prod.mk.injEq] at hp
  rcases hp with ⟨rfl, rfl⟩ | ⟨rfl, rfl⟩
  · exact ⟨0, s0, rfl, h0 g2, g3⟩
  · exact ⟨1, s1, rfl, h1 g2, g3⟩
theorem two_rel {κ : Kap} {next : Nat} {r0 r1 s0 s1 : Row} {w : World} (hR : Rel κ ⟨next, [(0, r0), (1, r1)]⟩ w) (e0 : r0.own = true) (e1 : r1.own = true) (h0 : RowRel κ w 0 r0 → RowRel κ w 0 s0) (h1 : RowRel κ w 1 r1 → RowRel κ w 1 s1) : Rel κ ⟨next, [(0, s0), (1, s1)]⟩ w := by
  refine ⟨hR.fresh, hR.mem.szlt, hR.mem.stable, fun n r hn => ?_, fun n n' r r' b g1 g2 g3 g4 _ => ?_⟩
  · have hp := find_mem _ _ _ hn
    simp only [List.mem_cons, List.not_mem_nil, or_false, Prod.mk.injEq] at hp
    rcases hp with ⟨rfl, rfl⟩ | ⟨rfl, rfl⟩
    · exact h0 (hR.mem.row 0 r0 rfl)
    · exact h1 (hR.mem.row 1 r1 rfl)
  · have hp := find_mem _ _ _ g1
    have hp' := find_mem _ _ _ g2
    simp only [List.mem_cons, List.not_mem_nil, or_false, Prod.mk.injEq] at hp hp'
    rcases hp with ⟨rfl, rfl⟩ | ⟨rfl, rfl⟩ <;> rcases hp' with ⟨rfl, rfl⟩ | ⟨rfl, rfl⟩
    · rfl
    · exact hR.mem.inj 0 1 r0 r1 b rfl rfl g3 g4 e0
    · exact hR.mem.inj 1 0 r1 r0 b rfl rfl g3 g4 e1
    · rfl
def f18 (R : Type) (E : Env) (st : AS) : Option ((EK → Env → AS → Option R) → Option R) :=
  match E.get 6, E.get 8 with
  | .mp 0, .mp 1 => match st.mem with
    | [(0, .ptab xs), (1, .ptab ys)] => some fun k => k .normal (E18 0 1) ⟨st.next, [(0, .ptab (joinP xs ys)), (1, .ptab ys)]⟩
    | _ => none
  | _, _ => none
set_option maxRecDepth 100000 in
theorem seq18p {nb next : Nat} {xs ys : List (Int × Int)} {E : Env} (hnb : nb ≤ next) (h6 : E.get 6 = .mp 0) (h8 : E.get 8 = .mp 1) :
    CodeOk Try.prog nb 52 (.seq (x18 Try.prog) (.block 0 (b18 Try.prog))) E ⟨next, [(0, .ptab xs), (1, .ptab ys)]⟩ .normal (E18 0 1) ⟨next, [(0, .ptab (joinP xs ys)), (1, .ptab ys)]⟩ := by
  intro κ a w hA hR
  obtain ⟨la, ca, ba, esa, hpa, a1, a2, a3⟩ := hR.mem.row 0 (.ptab xs) rfl
  obtain ⟨lb, cb, bb, esb, hpb, b1, b2, b3⟩ := hR.mem.row 1 (.ptab ys) rfl
  have hR2 : Rel κ ⟨next, [(0, .map (some .i64) la ca), (1, .map (some .i64) lb cb)]⟩ w := two_rel hR rfl rfl (fun _ => ⟨ba, esa, a1, a2, a3⟩) (fun _ => ⟨bb, esb, b1, b2, b3⟩)
  have hm : find [(0, Row.map (some .i64) (turned (joinF lb) (la.map fun x => x.2.1) la) ca), (1, .map (some .i64) lb cb)] = find ((0, .map (some .i64) (turned (joinF lb) (la.map fun x => x.2.1) la) ca) :: [(0, .map (some .i64) la ca), (1, .map (some .i64) lb cb)]) := funext fun x => by
    simp only [find]
    by_cases e : 0 = x
    · subst e; rfl
    · rw [beq_false e]; rfl
  refine wp_mono (seq18 (m' := [(0, Row.map (some .i64) (turned (joinF lb) (la.map fun x => x.2.1) la) ca), (1, .map (some .i64) lb cb)]) hnb h6 h8 (by omega) (qa := 0) (qb := 1) rfl rfl (pt_ints hpa) (pt_ints hpb) hm κ a w hA hR2) fun ex a' w' hq => ?_
  obtain ⟨h1, κ', h2, h3, h4, h5⟩ := hq
  refine ⟨h1, κ', h2, h3, two_rel h4 rfl rfl (fun h => ?_) (fun h => ?_), ?_⟩
  · obtain ⟨b, es, g1, g2, g3⟩ := h
    exact ⟨_, _, b, es, pt_turned hpb hpa fun e he => List.mem_map.2 ⟨e, he, rfl⟩, g1, g2, g3⟩
  · obtain ⟨b, es, g1, g2, g3⟩ := h
    exact ⟨_, _, b, es, hpb, g1, g2, g3⟩
  · exact ⟨fun b cs hs => (h5.sts b cs hs).imp id (Or.imp id (two_own (fun _ => rfl) fun _ => rfl)), h5.os, h5.tape, h5.output, h5.size, fun b hb hn => h5.keep b hb fun ho => hn (two_own (fun _ => rfl) (fun _ => rfl) ho), fun b hb ho => two_own (fun _ => rfl) (fun _ => rfl) (h5.owns b hb (two_own (fun _ => rfl) (fun _ => rfl) ho))⟩
def LCE : LT := fun R g key E st => bif Nat.beq g 18 && Nat.beq key 1 then f18 R E st else LC9 R g key E st
set_option maxRecDepth 100000 in
theorem LCE_ok : LOk Try.prog LCE := by
  refine ⟨fun R g id E st F h body hb nb hnb k r hF => ?_, fun R g id E st F h x body hmem nb hnb k r hF => ?_⟩
  · unfold LCE at h
    cases hc : (Nat.beq g 18 && Nat.beq (2 * id) 1) with
    | true =>
      simp only [Bool.and_eq_true] at hc
      have := Nat.eq_of_beq_eq_true hc.2
      omega
    | false => rw [hc] at h; exact LC9_ok.block R g id E st F h body hb nb hnb k r hF
  · unfold LCE at h
    cases hc : (Nat.beq g 18 && Nat.beq (2 * id + 1) 1) with
    | true =>
      rw [hc, cond_true] at h
      simp only [Bool.and_eq_true] at hc
      have hg := Nat.eq_of_beq_eq_true hc.1
      have hid0 : id = 0 := by have := Nat.eq_of_beq_eq_true hc.2; omega
      subst hg; subst hid0
      have hmem' : (0, x, body) ∈ q18 Try.prog := hmem
      rw [q18_eq] at hmem'
      have hxb : x = x18 Try.prog ∧ body = b18 Try.prog := by
        rcases List.mem_cons.1 hmem' with e | e
        · simp only [Prod.mk.injEq, true_and] at e; exact e
        · rcases List.mem_cons.1 e with e | e
          · simp at e
          · cases e
      obtain ⟨rfl, rfl⟩ := hxb
      unfold f18 at h
      split at h
      · rename_i g6 g8
        split at h
        · rename_i xs ys hm
          simp only [Option.some.injEq] at h
          subst h
          obtain ⟨next, mem⟩ := st
          dsimp only at hm hnb hF
          subst hm
          refine ⟨.normal, E18 0 1, _, hF, Nat.le_refl _, ?_⟩
          rw [sz18]
          exact seq18p hnb g6 g8
        · cases h
      · cases h
    | false => rw [hc] at h; exact LC9_ok.seq R g id E st F h x body hmem nb hnb k r hF

/-! ### what Join computes -/
def joiF (X Y : List (Int × Int)) : List (Int × Int) × Int :=
  bif chkE X != 0 then ([], chkE X) else bif chkE Y != 0 then ([], chkE Y) else (canF fun j => min (bytF j X) (bytF j Y), 0)
theorem joinP_keys {ys : List (Int × Int)} : ∀ {xs : List (Int × Int)}, ((joinP xs ys).map (·.1)).Sublist (xs.map (·.1))
  | [] => .slnil
  | x :: r => by
    simp only [joinP]
    cases hasId x.1 ys with
    | true => exact (joinP_keys (xs := r)).cons_cons _
    | false => exact (joinP_keys (xs := r)).trans (List.sublist_cons_self ..)
theorem joinP_len {ys : List (Int × Int)} (xs : List (Int × Int)) : (joinP xs ys).length ≤ xs.length := by
  have := (joinP_keys (xs := xs) (ys := ys)).length_le
  simpa using this
theorem joinP_book {xs ys : List (Int × Int)} (hx : Book xs) (hy : Book ys) : Book (joinP xs ys) := by
  refine ⟨hx.nodup.sublist joinP_keys, ?_⟩
  have h := hx.ok
  clear hx
  induction xs with
  | nil => simp [joinP]
  | cons x r ih =>
    intro p hp
    have hx := h x (List.mem_cons_self ..)
    simp only [joinP] at hp
    cases hb : hasId x.1 ys with
    | true =>
      rw [hb, cond_true] at hp
      rcases List.mem_cons.1 hp with e | e
      · rw [e]
        refine ⟨hx.1, ?_⟩
        have := (hy.ok _ (bytF_mem (hasId_iff.1 hb))).2
        dsimp only at this ⊢
        cases decide (bytF x.1 ys < x.2) with
        | true => exact this
        | false => exact hx.2
      · exact ih (fun y hy => h y (List.mem_cons_of_mem _ hy)) p e
    | false =>
      rw [hb, cond_false] at hp
      exact ih (fun y hy => h y (List.mem_cons_of_mem _ hy)) p hp
theorem bytF_join {ys : List (Int × Int)} (hy : Book ys) (j : Int) : ∀ {xs : List (Int × Int)}, (∀ x ∈ xs, x.2 > 0) → (xs.map (·.1)).Nodup → bytF j (joinP xs ys) = min (bytF j xs) (bytF j ys)
  | [], _, _ => by
    have := bytF_nonneg hy j
    simp [joinP, bytF]; omega
  | x :: r, h, hn => by
    simp only [List.map_cons, List.nodup_cons] at hn
    have ih := bytF_join hy j (xs := r) (fun y hy => h y (List.mem_cons_of_mem _ hy)) hn.2
    have hx := h x (List.mem_cons_self ..)
    simp only [joinP, bytF]
    by_cases e : x.1 = j
    · have e1 : (x.1 == j) = true := by simpa using e
      cases hb : hasId x.1 ys with
      | true =>
        simp only [cond_true, bytF, e]
        by_cases hg : bytF j ys < x.2
        · simp [hg]; omega
        · simp [hg]; omega
      | false =>
        have hz : bytF j ys = 0 := by rw [← e]; exact bytF_none _ _ hb
        have hr : bytF j r = 0 := bytF_zero (by rw [← e]; exact hn.1)
        simp only [cond_false, e1, cond_true, ih, hr, hz]
        omega
    · have e1 : (x.1 == j) = false := by simpa using e
      cases hb : hasId x.1 ys with
      | true => simp only [cond_true, bytF, e1, cond_false, ih]
      | false => simp only [cond_false, e1, ih]

/-! ### the program's Join -/
def outL2 (X : List (Int × Int)) : Option (AV × AS) :=
  bif Nat.ble (X.length * 8) LIM && allZ X then (bif true && decide (((X.map (·.1)).length : Int) = Int.ofNat (X.map (·.1)).length) && true && Nat.blt (X.map (·.1)).length 1000000 && okN (fun i => [.int .i64 (nthZ (sortZ (X.map (·.1))) i)]) (X.map (·.1)).length [] && (decide ((X.map (·.1)).length = (X.map (·.1)).length) && decide ((X.map (·.1)).length = (X.map (·.1)).length)) then
    some (.tup [.slc 4 [] 0 0 2 (outP X).length (outP X).length, .int .i64 0], ⟨5, [(0, .ptab X), (4, rOf (outP X))]⟩) else none) else none
theorem outL2_eq {X : List (Int × Int)} (hl : X.length ≤ 300) (hb : Book X) : outL2 X = some (.tup [.slc 4 [] 0 0 2 (canF fun j => bytF j X).length (canF fun j => bytF j X).length, .int .i64 0], ⟨5, [(0, .ptab X), (4, rOf (canF fun j => bytF j X))]⟩) := by
  unfold outL2
  have h1 : Nat.ble (X.length * 8) LIM = true := by unfold LIM; simp; omega
  have h2 : allZ X = true := List.all_eq_true.2 fun x hx => by
    have := (hb.ok x hx).1
    simp only [idB, inZ, Bool.and_eq_true, decide_eq_true_eq] at this ⊢
    omega
  have h3 : Nat.blt (X.map (·.1)).length 1000000 = true := by simp; omega
  have h4 : okN (fun i => [.int .i64 (nthZ (sortZ (X.map (·.1))) i)]) (X.map (·.1)).length [] = true := List.all_eq_true.2 fun _ _ => rfl
  have h5 : decide (((X.map (·.1)).length : Int) = Int.ofNat (X.map (·.1)).length) = true := by simp
  rw [h1, h2, h3, h4, h5, outP_eq, listF_can hb]
  simp
theorem evJoi (xs ys : List (Int × Int)) (n m : Nat) : evFn Try.prog KC9 LCE (regB Try.prog) 60 18 [.lst 2 (kf xs) n [], .lst 2 (kf ys) m []] ⟨0, []⟩ (fun v st => some (v, bif true then st else st)) =
  (bif okL (kf xs) n [] then
    bif chkE (kl (kf xs) n []) != Int.ofNat 0 then bif chkE (kl (kf xs) n []) != Int.ofNat 0 then some (.tup [.raw (.slice none 0 0), .int .i64 (chkE (kl (kf xs) n []))], ⟨0, []⟩) else
      bif okL (kf ys) m [] then bif chkE (kl (kf ys) m []) != Int.ofNat 0 then bif chkE (kl (kf ys) m []) != Int.ofNat 0 then some (.tup [.raw (.slice none 0 0), .int .i64 (chkE (kl (kf ys) m []))], ⟨0, []⟩) else none else none else none
    else bif okL (kf ys) m [] then
      bif chkE (kl (kf ys) m []) != Int.ofNat 0 then bif chkE (kl (kf ys) m []) != Int.ofNat 0 then some (.tup [.raw (.slice none 0 0), .int .i64 (chkE (kl (kf ys) m []))], ⟨1, [(0, .ptab (kl (kf xs) n []))]⟩) else none
      else outL2 (joinP (kl (kf xs) n []) (kl (kf ys) m [])) else none
  else none) := by kernel_rfl
def fJoi (R : Type) (vs : List AV) (k : AV → AS → Option R) : Option R :=
  match vs with
  | [.lst 2 f n us, .lst 2 g m vs'] => bif okL f n us && okL g m vs' then k (.tup [.slc 0 [] 0 0 2 (joiF (kl f n us) (kl g m vs')).1.length (joiF (kl f n us) (kl g m vs')).1.length, .int .i64 (joiF (kl f n us) (kl g m vs')).2]) ⟨1, [(0, rOf (joiF (kl f n us) (kl g m vs')).1)]⟩ else none
  | _ => none
theorem okJoi : FnOk Try.prog 18 fJoi := fun R vs k r h => by
  unfold fJoi at h
  split at h
  · rename_i f n us g m vs'
    obtain ⟨hc, h⟩ := cond_some h
    simp only [Bool.and_eq_true] at hc
    have key : ∀ v st', evFn Try.prog KC9 LCE (regB Try.prog) 60 18 [.lst 2 (kf (kl f n us)) (kl f n us).length [], .lst 2 (kf (kl g m vs')) (kl g m vs').length []] ⟨0, []⟩ (fun v st => some (v, bif true then st else st)) = some (v, st') → SoundFn Try.prog 18 [.lst 2 f n us, .lst 2 g m vs'] ⟨0, []⟩ v st' := fun v st' he =>
      SoundFn.args (fn_ev sprog_ok.1 sprog_ok.2 KC9_ok LCE_ok (fuel := 60) rfl he) fun κ ys hy => CRel.pairs2 hc.1 hc.2 hy
    rw [evJoi, kl_kf, okL_kf, kl_kf, okL_kf] at key
    generalize kl f n us = X at *
    generalize kl g m vs' = Y at *
    refine ⟨_, _, h, flat_list, ?_⟩
    unfold joiF
    have e0 : (chkE X != Int.ofNat 0) = (chkE X != 0) := rfl
    have e1 : (chkE Y != Int.ofNat 0) = (chkE Y != 0) := rfl
    rw [e0, e1] at key
    cases hb : (chkE X != 0) with
    | true =>
      rw [hb] at key
      exact (key _ _ rfl).noList
    | false =>
      rw [hb] at key
      simp only [cond_true, cond_false] at key ⊢
      cases hy : (chkE Y != 0) with
      | true =>
        rw [hy] at key
        exact (key _ _ rfl).noList
      | false =>
        rw [hy] at key
        simp only [cond_false] at key ⊢
        obtain ⟨h1, h2⟩ := chkE_ok hb
        obtain ⟨h3, h4⟩ := chkE_ok hy
        have b1 := chk_book h2
        have b2 := chk_book h4
        have hl2 := joinP_len (ys := Y) X
        rw [outL2_eq (by omega) (joinP_book b1 b2)] at key
        have hfun : (fun j => bytF j (joinP X Y)) = fun j => min (bytF j X) (bytF j Y) := funext fun j => bytF_join b2 j (fun x hx => (b1.ok x hx).2) b1.nodup
        rw [hfun] at key
        exact (key _ _ rfl).list rfl
  · cases h

/-! ### the document's Join -/
def minZ (b a : Int) : Int := bif decide (b < a) then b else a
def stRef (Y : List (Int × Int)) (s : Nat × List Int) (_ : Int) : (Nat × List Int) ⊕ Unit := .inl (s.1 + 1, s.2.set s.1 (minZ (bytF (Int.ofNat s.1) Y) (s.2.getD s.1 0)))
theorem stRef_fold (Y : List (Int × Int)) : ∀ (r : List Int) (i : Nat) (ts : List Int), ts.length = i + r.length → ∃ ts', foldX (stRef Y) (i, ts) r = .inl (i + r.length, ts') ∧ ts'.length = ts.length ∧
    ∀ j, ts'.getD j 0 = if i ≤ j ∧ j < i + r.length then minZ (bytF (Int.ofNat j) Y) (ts.getD j 0) else ts.getD j 0
  | [], i, ts, h => ⟨ts, rfl, rfl, fun j => by
      have h2 : ¬ (i ≤ j ∧ j < i + ([] : List Int).length) := by rw [List.length_nil]; omega
      rw [if_neg h2]⟩
  | x :: r, i, ts, h => by
    obtain ⟨ts', h1, h2, h3⟩ := stRef_fold Y r (i + 1) (ts.set i (minZ (bytF (Int.ofNat i) Y) (ts.getD i 0))) (by rw [List.length_set, h]; simp; omega)
    refine ⟨ts', ?_, by rw [h2, List.length_set], fun j => ?_⟩
    · simp only [foldX, stRef]
      rw [h1]
      congr 2
      simp; omega
    · rw [h3]
      by_cases e : j = i
      · subst e
        have hj : j < ts.length := by rw [h]; simp
        have n1 : ¬ (j + 1 ≤ j ∧ j < j + 1 + r.length) := by omega
        have n2 : j ≤ j ∧ j < j + (x :: r).length := ⟨Nat.le_refl _, by simp⟩
        rw [if_neg n1, if_pos n2, List.getD_eq_getElem?_getD, List.getElem?_set_self hj]; rfl
      · have hs : (ts.set i (minZ (bytF (Int.ofNat i) Y) (ts.getD i 0))).getD j 0 = ts.getD j 0 := by
          simp only [List.getD_eq_getElem?_getD, List.getElem?_set_ne (Ne.symm e)]
        rw [hs]
        by_cases h5 : i + 1 ≤ j ∧ j < i + 1 + r.length
        · rw [if_pos h5, if_pos ⟨by omega, by simp; omega⟩]
        · rw [if_neg h5, if_neg (by simp; omega)]
def refJ (T : List Int) (Y : List (Int × Int)) : List Int :=
  match foldX (stRef Y) (0, T) T with
  | .inl s => s.2
  | .inr _ => []
def lRef (ys : List (Int × Int)) (n i : Nat) : List (Nat × AV) := [(1, .lst 2 (kf ys) n []), (7, .slc 0 [] 0 0 1 257 257), (8, .int .i64 (Int.ofNat i))]
theorem gRef (ys : List (Int × Int)) (n i : Nat) : (slots (lRef ys n i) (Env.mk 6)).get 7 = .slc 0 [] 0 0 1 257 257 := by kernel_rfl
theorem gRefR (ys : List (Int × Int)) (n : Nat) (v : Int) : let E := (((Env.mk 6).set 1 (.lst 2 (kf ys) n [])).set 7 (.slc 0 [] 0 0 1 257 257)).set 8 (.int .i64 v)
    E.get 1 = .lst 2 (kf ys) n [] ∧ E.get 7 = .slc 0 [] 0 0 1 257 257 ∧ E.get 8 = .int .i64 v := ⟨by kernel_rfl, by kernel_rfl, by kernel_rfl⟩
theorem evRef (ys : List (Int × Int)) (n i : Nat) (ts : List Int) (t : Bool) : evCode Try.prog KC9 L0 (regB Try.prog) 60 19 (loopOf Try.prog 19 0) (slots (lRef ys n i) (Env.mk 6)) ⟨1, [(0, rTab ts true t)]⟩ (fun e E' st' => some (e, keepE E' [1, 7, 8] (Env.mk 6), [0].map (find st'.mem))) =
  (bif decide (Int.ofNat i < (257 : Int)) then bif decide (Int.ofNat i < (257 : Int)) then bif Nat.blt i 257 then bif okL (kf ys) n [] && Nat.ble n LIM then bif decide (Int.ofNat i < (257 : Int)) then bif Nat.blt i 257 then
    some (.normal, (((Env.mk 6).set 1 (.lst 2 (kf ys) n [])).set 7 (.slc 0 [] 0 0 1 257 257)).set 8 (.int .i64 (IntKind.i64.wrap (Int.ofNat (i + 1)))), [some (.cells [.arr 1 257 (nf ts) [(i, [.int .i64 (minZ (bytF (Int.ofNat i) (kl (kf ys) n [])) (ts.getD i 0))])]] true t)])
  else none else none else none else none else none else some (.exit 0, slots (lRef ys n i) (Env.mk 6), [some (rTab ts true t)])) := by kernel_rfl
theorem loopRef (t : Bool) (ys : List (Int × Int)) (hy : ys.length ≤ 1000) (T : List Int) (hT : T.length = 257) {nb : Nat} (hnb : nb ≤ 1) (hs : SubOk Try.prog 19 (loopOf Try.prog 19 0)) :
    LoopOk Try.prog nb (szOf Try.prog 19) (loopOf Try.prog 19 0) (slots (lRef ys ys.length 0) (Env.mk 6)) ⟨1, [(0, rTab T true t)]⟩ (.exit 0) (slots [(7, .slc 0 [] 0 0 1 257 257)] (Env.mk 6)) ⟨1, [(0, rTab (refJ T ys) true t)]⟩ := by
  obtain ⟨ts', h1, _, _⟩ := stRef_fold ys T 0 T (by omega)
  have hsp : refJ T ys = ts' := by unfold refJ; rw [h1]
  rw [hsp]
  have hl : Nat.ble ys.length LIM = true := by unfold LIM; simp; omega
  have key := loop_fold (P := Try.prog) (nb := nb) (sz := szOf Try.prog 19) (b := loopOf Try.prog 19 0) (stRef ys) T 0 (fun i s => s.1 = i ∧ s.2.length = 257) (fun i s => (slots (lRef ys ys.length i) (Env.mk 6), ⟨1, [(0, rTab s.2 true t)]⟩)) (fun s => ⟨.exit 0, slots [(7, .slc 0 [] 0 0 1 257 257)] (Env.mk 6), ⟨1, [(0, rTab s.2 true t)]⟩⟩) (fun _ => ⟨.ret, Env.mk 6, ⟨0, []⟩⟩) (fun i s hI hi => ?_) (fun s _ => ?_) (fun _ h => by cases h) (fun _ h => by cases h) T 0 (0, T) ⟨rfl, hT⟩ rfl (Nat.zero_le _)
  · rw [h1] at key; exact key
  · obtain ⟨j, ts⟩ := s
    obtain ⟨rfl, hI⟩ := hI
    dsimp only at hI
    rw [hT] at hi
    have hev := evRef ys ys.length j ts t
    have hlt : Nat.blt j 257 = true := by rw [Nat.blt_eq]; exact hi
    have hd : decide (Int.ofNat j < (257 : Int)) = true := decide_eq_true (by simp; omega)
    rw [okL_kf, kl_kf, hl] at hev
    simp only [hd, cond_true, wrapNat (show j < 9223372036854775807 by omega), hlt, Bool.and_self] at hev
    refine ⟨⟨rfl, by dsimp only; rw [List.length_set]; exact hI⟩, code_pull sprog_ok.1 sprog_ok.2 KC9_ok l0_ok (fuel := 60) (ts := [1, 7, 8]) (ms := [(0, rTab (ts.set j (minZ (bytF (Int.ofNat j) ys) (ts.getD j 0))) true t)]) id (fun _ => .cells [.arr 1 257 (nf ts) [(j, [.int .i64 (minZ (bytF (Int.ofNat j) ys) (ts.getD j 0))])]] true t) hs hnb hnb (fun _ _ => rfl) (fun p hp κ y hy => ?_) (fun p hp => ?_) (fun p hp p' hp' h => h) hev⟩
    · obtain ⟨g1, g7, g8⟩ := gRefR ys ys.length (Int.ofNat (j + 1))
      simp only [lRef, List.mem_cons, List.not_mem_nil, or_false] at hp
      rcases hp with rfl | rfl | rfl
      · dsimp only at hy; rw [g1] at hy; exact VRel.pull rfl hy
      · dsimp only at hy; rw [g7] at hy; exact VRel.pull_slc rfl (by omega) hy
      · dsimp only at hy; rw [g8] at hy; exact VRel.pull rfl hy
    · rw [List.mem_singleton.1 hp]
      exact ⟨RowLe.arr (by omega) id (nf_set ts j _ (by omega)), fun _ => rfl⟩
  · have hev := evRef ys ys.length T.length s.2 t
    have hd : decide (Int.ofNat T.length < (257 : Int)) = false := decide_eq_false (by rw [hT]; simp)
    simp only [hd, cond_false] at hev
    exact (code_rows sprog_ok.1 sprog_ok.2 KC9_ok l0_ok (fuel := 60) (ts := [1, 7, 8]) (ms := [(0, rTab s.2 true t)]) hs hnb hnb rfl rfl hev).less (less_slots fun p hp => by rw [List.mem_singleton.1 hp]; exact gRef _ _ _)
def fLoopRef (R : Type) (E : Env) (st : AS) : Option ((EK → Env → AS → Option R) → Option R) :=
  match E.get 1, E.get 7, E.get 8 with
  | .lst 2 f n us, .slc 0 [] 0 0 1 257 257, .int .i64 i => match st.mem with
    | [(0, .cells [.arr 1 257 f0 us0] true t)] => some fun k => bif Nat.beq st.next 1 && decide (i = 0) && Nat.ble n 1000 && (okL f n us && okN f0 257 us0) then
        k .normal (slots [(7, .slc 0 [] 0 0 1 257 257)] (Env.mk 6)) ⟨1, [(0, rTab (refJ (nl f0 257 us0) (kl f n us)) true t)]⟩ else none
    | _ => none
  | _, _, _ => none
theorem okLoopRef : LoopFn Try.prog 19 0 fLoopRef := fun R E st G h hs nb hnb k r hk => by
  unfold fLoopRef at h
  split at h
  · rename_i f n us i g1 g7 g8
    split at h
    · rename_i f0 us0 t hm
      simp only [Option.some.injEq] at h
      subst h
      obtain ⟨hc, hk1⟩ := cond_some hk
      clear hk
      simp only [Bool.and_eq_true, decide_eq_true_eq] at hc
      obtain ⟨⟨⟨c1, c3⟩, c4⟩, c5, c7⟩ := hc
      have d1 := Nat.eq_of_beq_eq_true c1
      have d4 := Nat.le_of_ble_eq_true c4
      clear c1
      obtain ⟨next, mem⟩ := st
      dsimp only at hm d1
      subst hm; subst d1; subst c3
      have hl := loopRef t (kl f n us) (by rw [kl_length]; exact d4) (nl f0 257 us0) nl_length hnb hs
      have hw : Weak nb (szOf Try.prog 19) E ⟨1, [(0, .cells [.arr 1 257 f0 us0] true t)]⟩ (slots (lRef (kl f n us) (kl f n us).length 0) (Env.mk 6)) ⟨1, [(0, rTab (nl f0 257 us0) true t)]⟩ := weak_pull id (fun _ _ => rfl) hnb (fun p hp κ y hy => by
        rw [kl_length] at hp
        simp only [lRef, List.mem_cons, List.not_mem_nil, or_false] at hp
        rcases hp with rfl | rfl | rfl
        · dsimp only at hy; rw [g1] at hy; exact VRel.pull rfl (hy.pairs c5)
        · dsimp only at hy; rw [g7] at hy; exact VRel.pull_slc rfl (by dsimp only; omega) hy
        · dsimp only at hy; rw [g8] at hy; exact VRel.pull rfl hy) (fun m r2 hf => by
        have hp := List.mem_singleton.1 (find_mem _ _ _ hf)
        simp only [Prod.mk.injEq] at hp
        obtain ⟨rfl, rfl⟩ := hp
        exact ⟨_, rfl, RowLe.arr (by dsimp only; omega) id (fun i hi => nf_nl c7 hi), fun _ => rfl⟩) (fun _ _ _ _ _ _ h => h)
      exact ⟨.exit 0, _, _, hk1, Nat.le_refl _, hl.weak hw⟩
    · cases h
  · cases h
def LCE2 : LT := addL 19 0 fLoopRef L0
theorem LCE2_ok : LOk Try.prog LCE2 := addL_ok sprog_ok.1 (by kernel_rfl) okLoopRef l0_ok
def outR (T : List Int) : Option (AV × AS) :=
  bif okN (nf T) 257 [] && Nat.blt 257 1000000 then some (.tup [.slc 1 [] 0 0 2 (ofF 0 (nl (nf T) 257 [])).length (ofF 0 (nl (nf T) 257 [])).length, .int .i64 0], ⟨2, [(0, rTab T true false), (1, rOf (ofF 0 (nl (nf T) 257 [])))]⟩) else none
theorem evJoi2 (xs ys : List (Int × Int)) (n m : Nat) : evFn Try.prog KC9 LCE2 (regB Try.prog) 60 19 [.lst 2 (kf xs) n [], .lst 2 (kf ys) m []] ⟨0, []⟩ (fun v st => some (v, bif true then st else st)) =
  (bif okL (kf xs) n [] then
    bif chkE (kl (kf xs) n []) != Int.ofNat 0 then some (.tup [.raw (.slice none 0 0), .int .i64 (chkE (kl (kf xs) n []))], ⟨0, []⟩)
    else bif okL (kf ys) m [] then
      bif chkE (kl (kf ys) m []) != Int.ofNat 0 then some (.tup [.raw (.slice none 0 0), .int .i64 (chkE (kl (kf ys) m []))], ⟨0, []⟩)
      else bif okL (kf xs) n [] && Nat.ble n LIM && allId (kl (kf xs) n []) then
        bif true && true && Nat.ble m 1000 && (okL (kf ys) m [] && okN (nf (tabF zeros257 (kl (kf xs) n []))) 257 []) then
          outR (refJ (nl (nf (tabF zeros257 (kl (kf xs) n []))) 257 []) (kl (kf ys) m []))
        else none else none
      else none
  else none) := by kernel_rfl
theorem nl_257 {T : List Int} (hT : T.length = 257) : nl (nf T) 257 [] = T := by
  have := nl_nf T
  rwa [hT] at this
theorem refJ_eq {X Y : List (Int × Int)} (hx : Book X) : refJ (tX X) Y = (List.range 257).map fun j => (fun k => min (bytF k X) (bytF k Y)) (Int.ofNat j) := by
  have hT : (tX X).length = 257 := by unfold tX; rw [tabF_length, zeros_len]
  obtain ⟨ts', h1, h2, h3⟩ := stRef_fold Y (tX X) 0 (tX X) (by omega)
  have hsp : refJ (tX X) Y = ts' := by unfold refJ; rw [h1]
  rw [hsp]
  refine List.ext_getElem (by rw [h2, hT, List.length_map, List.length_range]) fun j g1 g2 => ?_
  have hj : j < 257 := by rw [List.length_map, List.length_range] at g2; exact g2
  have h4 := h3 j
  rw [if_pos ⟨Nat.zero_le _, by rw [hT]; omega⟩] at h4
  rw [List.getD_eq_getElem?_getD, List.getElem?_eq_getElem g1, Option.getD_some] at h4
  rw [h4]
  have h5 : (tX X).getD j 0 = bytF (Int.ofNat j) X := by
    unfold tX
    rw [tabF_eq hx, List.getD_eq_getElem?_getD, List.getElem?_eq_getElem (by rw [List.length_map, List.length_range]; exact hj)]
    simp only [List.getElem_map, List.getElem_range, Option.getD_some]
  rw [h5]
  simp only [List.getElem_map, List.getElem_range, minZ]
  by_cases hg : bytF (Int.ofNat j) Y < bytF (Int.ofNat j) X
  · rw [decide_eq_true hg, cond_true]; omega
  · rw [decide_eq_false hg, cond_false]; omega
theorem okJoi2 : FnOk Try.prog 19 fJoi := fun R vs k r h => by
  unfold fJoi at h
  split at h
  · rename_i f n us g m vs'
    obtain ⟨hc, h⟩ := cond_some h
    simp only [Bool.and_eq_true] at hc
    have key : ∀ v st', evFn Try.prog KC9 LCE2 (regB Try.prog) 60 19 [.lst 2 (kf (kl f n us)) (kl f n us).length [], .lst 2 (kf (kl g m vs')) (kl g m vs').length []] ⟨0, []⟩ (fun v st => some (v, bif true then st else st)) = some (v, st') → SoundFn Try.prog 19 [.lst 2 f n us, .lst 2 g m vs'] ⟨0, []⟩ v st' := fun v st' he =>
      SoundFn.args (fn_ev sprog_ok.1 sprog_ok.2 KC9_ok LCE2_ok (fuel := 60) rfl he) fun κ ys hy => CRel.pairs2 hc.1 hc.2 hy
    rw [evJoi2, kl_kf, okL_kf, kl_kf, okL_kf] at key
    generalize kl f n us = X at *
    generalize kl g m vs' = Y at *
    refine ⟨_, _, h, flat_list, ?_⟩
    unfold joiF
    have e0 : (chkE X != Int.ofNat 0) = (chkE X != 0) := rfl
    have e1 : (chkE Y != Int.ofNat 0) = (chkE Y != 0) := rfl
    rw [e0, e1] at key
    cases hb : (chkE X != 0) with
    | true =>
      rw [hb] at key
      exact (key _ _ rfl).noList
    | false =>
      rw [hb] at key
      simp only [cond_true, cond_false] at key ⊢
      cases hy : (chkE Y != 0) with
      | true =>
        rw [hy] at key
        exact (key _ _ rfl).noList
      | false =>
        rw [hy] at key
        obtain ⟨h1, h2⟩ := chkE_ok hb
        obtain ⟨h3, h4⟩ := chkE_ok hy
        have b1 := chk_book h2
        have hl1 : Nat.ble X.length LIM = true := by unfold LIM; simp; omega
        have hl2 : Nat.ble Y.length 1000 = true := by simp; omega
        have hT : (tX X).length = 257 := by unfold tX; rw [tabF_length, zeros_len]
        have hn : nl (nf (tabF zeros257 X)) 257 [] = tX X := nl_257 hT
        have ho : okN (nf (tabF zeros257 X)) 257 [] = true := okN_nf _ _
        rw [hn, ho, hl1, hl2, allId_book b1] at key
        simp only [cond_false, cond_true, Bool.and_self] at key ⊢
        have hr := refJ_eq (Y := Y) b1
        have hrl : (refJ (tX X) Y).length = 257 := by rw [hr, List.length_map, List.length_range]
        have hout : outR (refJ (tX X) Y) = some (.tup [.slc 1 [] 0 0 2 (canF fun j => min (bytF j X) (bytF j Y)).length (canF fun j => min (bytF j X) (bytF j Y)).length, .int .i64 0], ⟨2, [(0, rTab (refJ (tX X) Y) true false), (1, rOf (canF fun j => min (bytF j X) (bytF j Y)))]⟩) := by
          unfold outR
          rw [okN_nf, nl_257 hrl]
          have hc2 : ofF 0 (refJ (tX X) Y) = canF fun j => min (bytF j X) (bytF j Y) := by rw [hr]; rfl
          rw [hc2]; rfl
        rw [hout] at key
        exact (key _ _ rfl).list rfl
  · cases h
/-- The table with both. -/
def hasCE : FuncId → Bool := addHas 18 (addHas 19 hasCD)
def specCE : SpecT := addS 18 fJoi (addS 19 fJoi specCD)
theorem specCE_ok : SpecOk Try.prog hasCE specCE := addS_ok okJoi (addS_ok okJoi2 specCD_ok)
def KCE : KT := orK (specK hasCE specCE) KX
theorem KCE_ok : KOk Try.prog KCE := orK_ok (specK_ok specCE_ok) KX_ok
theorem joiF_len (X Y : List (Int × Int)) : (joiF X Y).1.length ≤ 257 := by
  unfold joiF
  cases (chkE X != 0)
  · cases (chkE Y != 0)
    · simp only [cond_false]; exact canF_len _
    · simp only [cond_false, cond_true, List.length_nil]; omega
  · simp only [cond_true, List.length_nil]; omega
end Go.Sv
