/- The loop over a map in track.Join, for the second evaluator. -/
import Derived.Test.YtojoepocppnccaaGreatSvS
import Derived.Test.YtojoepocppnccaaGreatSvBase
namespace Go.Sv
noncomputable section
open Go.RowKit Go.Proofs
def fstC : Code → Code
  | .seq a _ => a
  | c => c
def sndC : Code → Code
  | .seq _ b => b
  | c => c
def inC : Code → Code
  | .block _ b => b
  | .loop b => b
  | .cond _ a _ => a
  | c => c
def elseC : Code → Code
  | .cond _ _ b => b
  | c => c
def opsC : Code → Array Oper
  | .region _ o _ => o
  | _ => #[]
def nthO (o : Array Oper) (i : Nat) : Oper := o.toList.getD i ⟨none, .move (.tmp 0), 0, "", #[], none⟩
def q18 (P : Program) : List (Nat × Code × Code) := seqs (bodyOf P 252)
def x18 (P : Program) : Code := ((q18 P).getD 0 (0, .skip, .skip)).2.1
def b18 (P : Program) : Code := ((q18 P).getD 0 (0, .skip, .skip)).2.2
theorem q18_eq : (q18 Tryz.prog) = [(0, (x18 Tryz.prog), (b18 Tryz.prog)), (1, ((q18 Tryz.prog).getD 1 (0, .skip, .skip)).2)] := by kernel_rfl
def o7 (P : Program) := opsC (x18 P)
def o8 (P : Program) := opsC (fstC (inC (b18 P)))
def blk (P : Program) := inC (sndC (sndC (inC (b18 P))))
def o9 (P : Program) := opsC (fstC (blk P))
def o10 (P : Program) := opsC (fstC (sndC (blk P)))
def o11 (P : Program) := opsC (fstC (sndC (sndC (blk P))))
def c18 (P : Program) := sndC (sndC (sndC (blk P)))
def o12 (P : Program) := opsC (inC (c18 P))
def o13 (P : Program) := opsC (elseC (c18 P))
theorem x18_eq : (x18 Tryz.prog) = .region 7 (o7 Tryz.prog) false := by kernel_rfl
theorem b18_eq : (b18 Tryz.prog) = .loop (.seq (.region 8 (o8 Tryz.prog) false) (.seq (.cond (.tmp 32) .skip (.exit 0)) (.block 1 (.seq (.region 9 (o9 Tryz.prog) false) (.seq (.region 10 (o10 Tryz.prog) false) (.seq (.region 11 (o11 Tryz.prog) false) (.cond (.tmp 42) (.region 12 (o12 Tryz.prog) false) (.region 13 (o13 Tryz.prog) false)))))))) := by kernel_rfl
theorem o7_eq : (o7 Tryz.prog).toList = [nthO (o7 Tryz.prog) 0, nthO (o7 Tryz.prog) 1] := by kernel_rfl
theorem o12_eq : (o12 Tryz.prog).toList = [nthO (o12 Tryz.prog) 0, nthO (o12 Tryz.prog) 1, nthO (o12 Tryz.prog) 2, nthO (o12 Tryz.prog) 3, nthO (o12 Tryz.prog) 4, nthO (o12 Tryz.prog) 5] := by kernel_rfl
theorem o71 : (nthO (o7 Tryz.prog) 1).op = .range 341 (.tmp 29) := by kernel_rfl
theorem sz18 : szOf Tryz.prog 252 = 52 := by kernel_rfl
theorem ty96 : mapTy Tryz.prog 341 = some (some .i64, 3, 3) := by kernel_rfl
theorem z3 : zeroAV Tryz.prog 3 = some (.int .i64 0) := by kernel_rfl

theorem op_of {o : Oper} {E : Env} {st : AS} {e : Ent} (h : opE Tryz.prog o E st some = some e) : OpOk Tryz.prog o E st.next (find st.mem) e := by
  obtain ⟨e', h1, h2⟩ := opE_ok sprog_ok.1.zeros sprog_ok.1.flat h
  cases h1; exact h2
def Eh (qa qb r : Nat) : Env := (((Env.mk 6).set 6 (.mp qa)).set 8 (.mp qb)).set 30 (.raw (.pointer (some ⟨r, 0, none⟩)))
def E9 (qa qb r : Nat) (k a : Int) : Env := ((Eh qa qb r).set 9 (.int .i64 k)).set 10 (.int .i64 a)
def Ea (qa qb r : Nat) (k a : Int) : Env := ((E9 qa qb r k a).set 37 (.mp qb)).set 38 (.int .i64 k)
def Eb (qa qb r : Nat) (k a b : Int) (fl : Bool) : Env := (((((((Ea qa qb r k a).set 39 (.tup [.int .i64 b, .bool fl])).set 36 (.tup [.int .i64 b, .bool fl])).set 40 (.int .i64 b)).set 41 (.bool fl)).set 11 (.int .i64 b)).set 12 (.bool fl))
theorem o10_eq : (o10 Tryz.prog).toList = [nthO (o10 Tryz.prog) 0, nthO (o10 Tryz.prog) 1, nthO (o10 Tryz.prog) 2, nthO (o10 Tryz.prog) 3, nthO (o10 Tryz.prog) 4, nthO (o10 Tryz.prog) 5, nthO (o10 Tryz.prog) 6, nthO (o10 Tryz.prog) 7] := by kernel_rfl
theorem ListOk.step {ops : Array Oper} {o : Oper} {t : Tmp} {v : AV} {rd : List Nat} {l : List Oper} {E E' : Env} {st st' : AS} (h : opE Tryz.prog o E st some = some ⟨v, [], 0, rd⟩) (hg : o.guard = none ∧ o.dst = some t) (ht : Nat.blt t 52 = true) (hl : ListOk Tryz.prog ops 52 l (E.set t v) st E' st') : ListOk Tryz.prog ops 52 (o :: l) E st E' st' :=
  ListOk.cons (st1 := st) hg.1 (by rw [hg.2]; exact ht) (op_of h) rfl rfl (by rw [hg.2]; exact hl)
theorem ListOk.last {ops : Array Oper} {o : Oper} {e : Ent} {E : Env} {st st1 : AS} (h : opE Tryz.prog o E st some = some e) (hg : o.guard = none ∧ o.dst = none) (h1 : st1.next = st.next + e.nx) (h2 : find st1.mem = Mem.sets (find st.mem) e.eff) : ListOk Tryz.prog ops 52 [o] E st E st1 :=
  ListOk.cons (st1 := st1) hg.1 (by rw [hg.2]; rfl) (op_of h) h1 h2 (by rw [hg.2]; exact .nil)
theorem d10 : ((nthO (o10 Tryz.prog) 0).guard = none ∧ (nthO (o10 Tryz.prog) 0).dst = some 37) ∧ ((nthO (o10 Tryz.prog) 1).guard = none ∧ (nthO (o10 Tryz.prog) 1).dst = some 38) ∧ ((nthO (o10 Tryz.prog) 2).guard = none ∧ (nthO (o10 Tryz.prog) 2).dst = some 39) ∧
    ((nthO (o10 Tryz.prog) 3).guard = none ∧ (nthO (o10 Tryz.prog) 3).dst = some 36) ∧ ((nthO (o10 Tryz.prog) 4).guard = none ∧ (nthO (o10 Tryz.prog) 4).dst = some 40) ∧ ((nthO (o10 Tryz.prog) 5).guard = none ∧ (nthO (o10 Tryz.prog) 5).dst = some 41) ∧
    ((nthO (o10 Tryz.prog) 6).guard = none ∧ (nthO (o10 Tryz.prog) 6).dst = some 11) ∧ ((nthO (o10 Tryz.prog) 7).guard = none ∧ (nthO (o10 Tryz.prog) 7).dst = some 12) :=
  ⟨⟨by kernel_rfl, by kernel_rfl⟩, ⟨by kernel_rfl, by kernel_rfl⟩, ⟨by kernel_rfl, by kernel_rfl⟩, ⟨by kernel_rfl, by kernel_rfl⟩, ⟨by kernel_rfl, by kernel_rfl⟩, ⟨by kernel_rfl, by kernel_rfl⟩, ⟨by kernel_rfl, by kernel_rfl⟩, ⟨by kernel_rfl, by kernel_rfl⟩⟩
theorem list10 (qa qb r : Nat) (k a b : Int) (fl : Bool) (st : AS) (hlook : lookupE Tryz.prog 341 (.tmp 37) (.tmp 38) true (Ea qa qb r k a) st.mem some = some ⟨.tup [.int .i64 b, .bool fl], [], 0, [qb]⟩) :
    ListOk Tryz.prog (o10 Tryz.prog) 52 (o10 Tryz.prog).toList (E9 qa qb r k a) st (Eb qa qb r k a b fl) st := by
  rw [o10_eq]
  obtain ⟨d0, d1, d2, d3, d4, d5, d6, d7⟩ := d10
  have h0 : opE Tryz.prog (nthO (o10 Tryz.prog) 0) (E9 qa qb r k a) st some = some ⟨.mp qb, [], 0, []⟩ := by kernel_rfl
  have h1 : opE Tryz.prog (nthO (o10 Tryz.prog) 1) ((E9 qa qb r k a).set 37 (.mp qb)) st some = some ⟨.int .i64 k, [], 0, []⟩ := by kernel_rfl
  have e2 : opE Tryz.prog (nthO (o10 Tryz.prog) 2) (Ea qa qb r k a) st some = lookupE Tryz.prog 341 (.tmp 37) (.tmp 38) true (Ea qa qb r k a) st.mem some := by kernel_rfl
  have h2 := e2.trans hlook
  have h3 : opE Tryz.prog (nthO (o10 Tryz.prog) 3) ((Ea qa qb r k a).set 39 (.tup [.int .i64 b, .bool fl])) st some = some ⟨.tup [.int .i64 b, .bool fl], [], 0, []⟩ := by kernel_rfl
  have h4 : opE Tryz.prog (nthO (o10 Tryz.prog) 4) (((Ea qa qb r k a).set 39 (.tup [.int .i64 b, .bool fl])).set 36 (.tup [.int .i64 b, .bool fl])) st some = some ⟨.int .i64 b, [], 0, []⟩ := by kernel_rfl
  have h5 : opE Tryz.prog (nthO (o10 Tryz.prog) 5) ((((Ea qa qb r k a).set 39 (.tup [.int .i64 b, .bool fl])).set 36 (.tup [.int .i64 b, .bool fl])).set 40 (.int .i64 b)) st some = some ⟨.bool fl, [], 0, []⟩ := by kernel_rfl
  have h6 : opE Tryz.prog (nthO (o10 Tryz.prog) 6) (((((Ea qa qb r k a).set 39 (.tup [.int .i64 b, .bool fl])).set 36 (.tup [.int .i64 b, .bool fl])).set 40 (.int .i64 b)).set 41 (.bool fl)) st some = some ⟨.int .i64 b, [], 0, []⟩ := by kernel_rfl
  have h7 : opE Tryz.prog (nthO (o10 Tryz.prog) 7) ((((((Ea qa qb r k a).set 39 (.tup [.int .i64 b, .bool fl])).set 36 (.tup [.int .i64 b, .bool fl])).set 40 (.int .i64 b)).set 41 (.bool fl)).set 11 (.int .i64 b)) st some = some ⟨.bool fl, [], 0, []⟩ := by kernel_rfl
  exact .step h0 d0 rfl (.step h1 d1 rfl (.step h2 d2 rfl (.step h3 d3 rfl (.step h4 d4 rfl (.step h5 d5 rfl (.step h6 d6 rfl (.step h7 d7 rfl .nil)))))))

theorem d11 : (o11 Tryz.prog).toList = [nthO (o11 Tryz.prog) 0] ∧ (nthO (o11 Tryz.prog) 0).guard = none ∧ (nthO (o11 Tryz.prog) 0).dst = some 42 := ⟨by kernel_rfl, by kernel_rfl, by kernel_rfl⟩
theorem d12 : ((nthO (o12 Tryz.prog) 0).guard = none ∧ (nthO (o12 Tryz.prog) 0).dst = some 43) ∧ ((nthO (o12 Tryz.prog) 1).guard = none ∧ (nthO (o12 Tryz.prog) 1).dst = some 44) ∧ ((nthO (o12 Tryz.prog) 2).guard = none ∧ (nthO (o12 Tryz.prog) 2).dst = some 45) ∧
    ((nthO (o12 Tryz.prog) 3).guard = none ∧ (nthO (o12 Tryz.prog) 3).dst = some 46) ∧ ((nthO (o12 Tryz.prog) 4).guard = none ∧ (nthO (o12 Tryz.prog) 4).dst = some 47) ∧ ((nthO (o12 Tryz.prog) 5).guard = none ∧ (nthO (o12 Tryz.prog) 5).dst = none) :=
  ⟨⟨by kernel_rfl, by kernel_rfl⟩, ⟨by kernel_rfl, by kernel_rfl⟩, ⟨by kernel_rfl, by kernel_rfl⟩, ⟨by kernel_rfl, by kernel_rfl⟩, ⟨by kernel_rfl, by kernel_rfl⟩, ⟨by kernel_rfl, by kernel_rfl⟩⟩
theorem d13 : (o13 Tryz.prog).toList = [nthO (o13 Tryz.prog) 0, nthO (o13 Tryz.prog) 1, nthO (o13 Tryz.prog) 2] ∧ ((nthO (o13 Tryz.prog) 0).guard = none ∧ (nthO (o13 Tryz.prog) 0).dst = some 48) ∧ ((nthO (o13 Tryz.prog) 1).guard = none ∧ (nthO (o13 Tryz.prog) 1).dst = some 49) ∧ ((nthO (o13 Tryz.prog) 2).guard = none ∧ (nthO (o13 Tryz.prog) 2).dst = none) :=
  ⟨by kernel_rfl, ⟨by kernel_rfl, by kernel_rfl⟩, ⟨by kernel_rfl, by kernel_rfl⟩, ⟨by kernel_rfl, by kernel_rfl⟩⟩
def Ec (qa qb r : Nat) (k a b : Int) (fl : Bool) : Env := (Eb qa qb r k a b fl).set 42 (.bool fl)
theorem list11 (qa qb r : Nat) (k a b : Int) (fl : Bool) (st : AS) : ListOk Tryz.prog (o11 Tryz.prog) 52 (o11 Tryz.prog).toList (Eb qa qb r k a b fl) st (Ec qa qb r k a b fl) st := by
  obtain ⟨e, d⟩ := d11
  rw [e]
  have h0 : opE Tryz.prog (nthO (o11 Tryz.prog) 0) (Eb qa qb r k a b fl) st some = some ⟨.bool fl, [], 0, []⟩ := by kernel_rfl
  exact .step h0 d rfl .nil
def Ed (qa qb r : Nat) (k a b : Int) : Env := (((((Ec qa qb r k a b true).set 43 (.mp qa)).set 44 (.int .i64 k)).set 45 (.int .i64 a)).set 46 (.int .i64 b)).set 47 (.int .i64 (bif decide (b < a) then b else a))
def Ee (qa qb r : Nat) (k a b : Int) : Env := ((Ec qa qb r k a b false).set 48 (.mp qa)).set 49 (.int .i64 k)
theorem list12 (qa qb r : Nat) (k a b : Int) (st st1 : AS) {l : Ents3} {c : Nat} (hq : find st.mem qa = some (.map (some .i64) l c)) (hg : (mapGet l (.i k)).isSome = true) (h1 : st1.next = st.next)
    (h2 : find st1.mem = Mem.sets (find st.mem) [(qa, some (.map (some .i64) (mapPut l (.i k) (.int .i64 (bif decide (b < a) then b else a))) c))]) :
    ListOk Tryz.prog (o12 Tryz.prog) 52 (o12 Tryz.prog).toList (Ec qa qb r k a b true) st (Ed qa qb r k a b) st1 := by
  rw [o12_eq]
  obtain ⟨d0, d1, d2, d3, d4, d5⟩ := d12
  have h0' : opE Tryz.prog (nthO (o12 Tryz.prog) 0) (Ec qa qb r k a b true) st some = some ⟨.mp qa, [], 0, []⟩ := by kernel_rfl
  have h1' : opE Tryz.prog (nthO (o12 Tryz.prog) 1) ((Ec qa qb r k a b true).set 43 (.mp qa)) st some = some ⟨.int .i64 k, [], 0, []⟩ := by kernel_rfl
  have h2' : opE Tryz.prog (nthO (o12 Tryz.prog) 2) (((Ec qa qb r k a b true).set 43 (.mp qa)).set 44 (.int .i64 k)) st some = some ⟨.int .i64 a, [], 0, []⟩ := by kernel_rfl
  have h3' : opE Tryz.prog (nthO (o12 Tryz.prog) 3) ((((Ec qa qb r k a b true).set 43 (.mp qa)).set 44 (.int .i64 k)).set 45 (.int .i64 a)) st some = some ⟨.int .i64 b, [], 0, []⟩ := by kernel_rfl
  have h4' : opE Tryz.prog (nthO (o12 Tryz.prog) 4) (((((Ec qa qb r k a b true).set 43 (.mp qa)).set 44 (.int .i64 k)).set 45 (.int .i64 a)).set 46 (.int .i64 b)) st some = some ⟨.int .i64 (bif decide (b < a) then b else a), [], 0, []⟩ := by kernel_rfl
  have e5 : opE Tryz.prog (nthO (o12 Tryz.prog) 5) (Ed qa qb r k a b) st some = mapUpdateE Tryz.prog 341 (.tmp 43) (.tmp 44) (.tmp 47) (Ed qa qb r k a b) st.mem some := by kernel_rfl
  have h5' := e5.trans (mapUpdateE_of ty96 (iv := .int .i64 k) (K := .i k) (n := qa) (q := .i64) (z := bif decide (b < a) then b else a) (by kernel_rfl) (by kernel_rfl) (by kernel_rfl) hq (by kernel_rfl) hg)
  have hl : ListOk Tryz.prog (o12 Tryz.prog) 52 [nthO (o12 Tryz.prog) 5] (Ed qa qb r k a b) st (Ed qa qb r k a b) st1 := ListOk.last h5' d5 h1 h2
  exact .step h0' d0 rfl (.step h1' d1 rfl (.step h2' d2 rfl (.step h3' d3 rfl (.step h4' d4 rfl hl))))
theorem list13 (qa qb r : Nat) (k a b : Int) (st st1 : AS) {l : Ents3} {c : Nat} (hq : find st.mem qa = some (.map (some .i64) l c)) (h1 : st1.next = st.next)
    (h2 : find st1.mem = Mem.sets (find st.mem) [(qa, some (.map (some .i64) (mapDel l (.i k)) c))]) :
    ListOk Tryz.prog (o13 Tryz.prog) 52 (o13 Tryz.prog).toList (Ec qa qb r k a b false) st (Ee qa qb r k a b) st1 := by
  obtain ⟨e, d0, d1, d2⟩ := d13
  rw [e]
  have h0' : opE Tryz.prog (nthO (o13 Tryz.prog) 0) (Ec qa qb r k a b false) st some = some ⟨.mp qa, [], 0, []⟩ := by kernel_rfl
  have h1' : opE Tryz.prog (nthO (o13 Tryz.prog) 1) ((Ec qa qb r k a b false).set 48 (.mp qa)) st some = some ⟨.int .i64 k, [], 0, []⟩ := by kernel_rfl
  have e2 : opE Tryz.prog (nthO (o13 Tryz.prog) 2) (Ee qa qb r k a b) st some = deleteE Tryz.prog 341 (.tmp 48) (.tmp 49) (Ee qa qb r k a b) st.mem some := by kernel_rfl
  have h2' := e2.trans (deleteE_of ty96 (iv := .int .i64 k) (K := .i k) (n := qa) (by kernel_rfl) (by kernel_rfl) (by kernel_rfl) hq)
  have hl : ListOk Tryz.prog (o13 Tryz.prog) 52 [nthO (o13 Tryz.prog) 2] (Ee qa qb r k a b) st (Ee qa qb r k a b) st1 := ListOk.last h2' d2 h1 h2
  exact .step h0' d0 rfl (.step h1' d1 rfl hl)
theorem ListOk.code {P : Program} {ops : Array Oper} {id nb sz : Nat} {E E' : Env} {st st' : AS} (h : ListOk P ops sz ops.toList E st E' st') (hn : nb ≤ st.next) : CodeOk P nb sz (.region id ops false) E st .normal E' st' := fun κ a w hA hR =>
  wp_region_list (h.2 κ a w _ hA hR fun κ' _ _ a1 a2 a3 a4 => ⟨rfl, κ', a1.mono hn, a2, a3, a4⟩)
theorem CodeOk.seq {P : Program} {x y : Code} {nb sz : Nat} {E E1 E' : Env} {st st1 st' : AS} {e : EK} (h1 : CodeOk P nb sz x E st .normal E1 st1) (h2 : CodeOk P nb sz y E1 st1 e E' st') : CodeOk P nb sz (.seq x y) E st e E' st' := fun κ a w hA hR => wp_seq (by
  refine wp_mono (h1 κ a w hA hR) fun ex a' w' hq => ?_
  obtain ⟨rfl, κ', hle, hA', hR', hb⟩ := hq
  exact wp_mono (h2 κ' a' w' hA' hR') fun ex a2 w2 hq2 => hq2.mono hle hb)

/-- A smaller frame, slot by slot. -/
theorem less_of {qa qb r : Nat} {E : Env} (h : (E.get 6, E.get 8, E.get 30) = (AV.mp qa, AV.mp qb, AV.raw (.pointer (some ⟨r, 0, none⟩)))) : Less (Eh qa qb r) E := fun t => by
  simp only [Prod.mk.injEq] at h
  obtain ⟨h6, h8, h30⟩ := h
  unfold Eh
  by_cases e30 : t = 30
  · subst e30; rw [h30]; exact Env.get_set_same _ _ _
  · rw [Env.get_set_ne e30]
    by_cases e8 : t = 8
    · subst e8; rw [h8]; exact Env.get_set_same _ _ _
    · rw [Env.get_set_ne e8]
      by_cases e6 : t = 6
      · subst e6; rw [h6]; exact Env.get_set_same _ _ _
      · rw [Env.get_set_ne e6, Env.get_mk]; exact .inr rfl
/-- What becomes of an entry. -/
def joinF (lb : Ents3) : Key → AV → Option AV := fun k v =>
  match mapGet lb k with
  | some (.int _ b) => match v with
    | .int q a => some (.int q (bif decide (b < a) then b else a))
    | _ => none
  | _ => none
def intsOk : Ents3 → Bool
  | [] => true
  | (.i _, _, .int .i64 _) :: l => intsOk l
  | _ => false
theorem intsOk_mem : ∀ {l : Ents3}, intsOk l = true → ∀ x ∈ l, ∃ k b a, x = (.i k, b, .int .i64 a)
  | [], _, x, h => by cases h
  | (k, b, v) :: l, h, x, hx => by
    unfold intsOk at h
    split at h
    · rename_i e; cases e
    · rename_i k' b' a' l' e
      cases e
      rcases List.mem_cons.1 hx with rfl | hx
      · exact ⟨_, _, _, rfl⟩
      · exact intsOk_mem h x hx
    · cases h
theorem mapGet_mem {K : Key} {v : AV} : ∀ {l : Ents3}, mapGet l K = some v → ∃ b, (K, b, v) ∈ l
  | [], h => by cases h
  | (k, b, x) :: l, h => by
    simp only [mapGet] at h
    split at h
    · rename_i hk
      cases h
      have := keyEq_iff.1 hk
      subst this
      exact ⟨b, List.mem_cons_self ..⟩
    · obtain ⟨b, hb⟩ := mapGet_mem h
      exact ⟨b, List.mem_cons_of_mem _ hb⟩
def rest18 (P : Program) : Code := .seq (.region 10 (o10 P) false) (.seq (.region 11 (o11 P) false) (.cond (.tmp 42) (.region 12 (o12 P) false) (.region 13 (o13 P) false)))
theorem rest18_ok (qa qb r : Nat) (k a : Int) (nb next : Nat) (m : List (Nat × Row)) {lc lb : Ents3} {ca cb : Nat} (hn : nb ≤ next) (ha : find m qa = some (.map (some .i64) lc ca)) (hb : find m qb = some (.map (some .i64) lb cb)) (hg : (mapGet lc (.i k)).isSome = true) (hi : intsOk lb = true) :
    ∃ E', Less (Eh qa qb r) E' ∧ CodeOk Tryz.prog nb 52 (rest18 Tryz.prog) (E9 qa qb r k a) ⟨next, m⟩ .normal E' ⟨next, (qa, .map (some .i64) (match joinF lb (.i k) (.int .i64 a) with | some v' => mapPut lc (.i k) v' | none => mapDel lc (.i k)) ca) :: m⟩ := by
  have hset : ∀ l', find ((qa, Row.map (some .i64) l' ca) :: m) = Mem.sets (find m) [(qa, some (.map (some .i64) l' ca))] := fun l' => funext fun x => by
    show find _ x = Mem.set (find m) qa _ x
    simp only [find, Mem.set]
    by_cases e : x = qa
    · subst e; simp
    · rw [beq_false (Ne.symm e), if_neg e]; rfl
  have hk0 : aeval (Ea qa qb r k a) (.tmp 38) = some (.int .i64 k) := by kernel_rfl
  have hm0 : aeval (Ea qa qb r k a) (.tmp 37) = some (.mp qb) := by kernel_rfl
  cases hget : mapGet lb (.i k) with
  | some v =>
    obtain ⟨b0, hmem⟩ := mapGet_mem hget
    obtain ⟨k', b', b, e⟩ := intsOk_mem hi _ hmem
    simp only [Prod.mk.injEq] at e
    obtain ⟨_, _, rfl⟩ := e
    have hj : joinF lb (.i k) (.int .i64 a) = some (.int .i64 (bif decide (b < a) then b else a)) := by simp only [joinF, hget]
    rw [hj]
    have hl := list10 qa qb r k a b true ⟨next, m⟩ (lookupE_of ty96 hk0 rfl hm0 hb hget rfl)
    have h12 := list12 qa qb r k a b ⟨next, m⟩ ⟨next, (qa, .map (some .i64) (mapPut lc (.i k) (.int .i64 (bif decide (b < a) then b else a))) ca) :: m⟩ ha hg rfl (hset _)
    refine ⟨Ed qa qb r k a b, less_of (E := Ed qa qb r k a b) (by kernel_rfl), (hl.code hn).seq (((list11 qa qb r k a b true ⟨next, m⟩).code hn).seq ?_)⟩
    · intro κ a' w hA hR
      have hc : a'.eval (.tmp 42) = .bool true := bool_of (b := true) (hA.rel.get 42)
      exact wp_cond_true hc ((h12.code hn) κ a' w hA hR)
  | none =>
    have hj : joinF lb (.i k) (.int .i64 a) = none := by simp only [joinF, hget]
    rw [hj]
    have hl := list10 qa qb r k a 0 false ⟨next, m⟩ (lookupE_none ty96 hk0 rfl hm0 hb hget z3 rfl)
    have h13 := list13 qa qb r k a 0 ⟨next, m⟩ ⟨next, (qa, .map (some .i64) (mapDel lc (.i k)) ca) :: m⟩ ha rfl (hset _)
    refine ⟨Ee qa qb r k a 0, less_of (E := Ee qa qb r k a 0) (by kernel_rfl), (hl.code hn).seq (((list11 qa qb r k a 0 false ⟨next, m⟩).code hn).seq ?_)⟩
    · intro κ a' w hA hR
      have hc : a'.eval (.tmp 42) = .bool false := bool_of (b := false) (hA.rel.get 42)
      exact wp_cond_false hc ((h13.code hn) κ a' w hA hR)
end
end Go.Sv
