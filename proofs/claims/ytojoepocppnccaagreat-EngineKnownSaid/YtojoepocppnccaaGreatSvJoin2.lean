/- The loop over a map in track.Join: its rounds. -/
import Derived.Test.YtojoepocppnccaaGreatSvJoin
namespace Go.Sv
noncomputable section
open Go.RowKit Go.Proofs
open Go.ChangeMaps (setBlock)

theorem o8_eq : (o8 Tryz.prog).toList = [nthO (o8 Tryz.prog) 0, nthO (o8 Tryz.prog) 1] := by kernel_rfl
theorem o9_eq : (o9 Tryz.prog).toList = [nthO (o9 Tryz.prog) 0, nthO (o9 Tryz.prog) 1, nthO (o9 Tryz.prog) 2, nthO (o9 Tryz.prog) 3, nthO (o9 Tryz.prog) 4] := by kernel_rfl
theorem d8 : (nthO (o8 Tryz.prog) 0).op = .next (.tmp 30) false ∧ (nthO (o8 Tryz.prog) 0).guard = none ∧ (nthO (o8 Tryz.prog) 0).dst = some 31 ∧ (nthO (o8 Tryz.prog) 1).guard = none ∧ (nthO (o8 Tryz.prog) 1).dst = some 32 := ⟨by kernel_rfl, by kernel_rfl, by kernel_rfl, by kernel_rfl, by kernel_rfl⟩
theorem d9 : (nthO (o9 Tryz.prog) 0).op = .entry (.tmp 30) ∧ (nthO (o9 Tryz.prog) 0).guard = none ∧ (nthO (o9 Tryz.prog) 0).dst = some 33 ∧ ((nthO (o9 Tryz.prog) 1).guard = none ∧ (nthO (o9 Tryz.prog) 1).dst = some 34) ∧ ((nthO (o9 Tryz.prog) 2).guard = none ∧ (nthO (o9 Tryz.prog) 2).dst = some 35) ∧
    ((nthO (o9 Tryz.prog) 3).guard = none ∧ (nthO (o9 Tryz.prog) 3).dst = some 9) ∧ ((nthO (o9 Tryz.prog) 4).guard = none ∧ (nthO (o9 Tryz.prog) 4).dst = some 10) :=
  ⟨by kernel_rfl, by kernel_rfl, by kernel_rfl, ⟨by kernel_rfl, by kernel_rfl⟩, ⟨by kernel_rfl, by kernel_rfl⟩, ⟨by kernel_rfl, by kernel_rfl⟩, ⟨by kernel_rfl, by kernel_rfl⟩⟩
theorem Rel.find {κ : Kap} {n : Nat} {m m' : List (Nat × Row)} {w : World} (h : Rel κ ⟨n, m⟩ w) (e : Go.Sv.find m' = Go.Sv.find m) : Rel κ ⟨n, m'⟩ w := ⟨h.fresh, by show MRel κ (Go.Sv.find m') w; rw [e]; exact h.mem⟩
def El (qa qb r : Nat) : Env := ((Eh qa qb r).set 31 (.tup [.bool false])).set 32 (.bool false)
def Ef (qa qb r : Nat) (k a : Int) : Env := ((Eh qa qb r).set 31 (.tup [.bool true, .int .i64 k, .int .i64 a])).set 32 (.bool true)
def Eg (qa qb r : Nat) (k a : Int) : Env := (((((Ef qa qb r k a).set 33 (.tup [.int .i64 k, .int .i64 a])).set 34 (.int .i64 k)).set 35 (.int .i64 a)).set 9 (.int .i64 k)).set 10 (.int .i64 a)
theorem list8l (qa qb r : Nat) (st : AS) : ListOk Tryz.prog (o8 Tryz.prog) 52 [nthO (o8 Tryz.prog) 1] ((Eh qa qb r).set 31 (.tup [.bool false])) st (El qa qb r) st := by
  have h : opE Tryz.prog (nthO (o8 Tryz.prog) 1) ((Eh qa qb r).set 31 (.tup [.bool false])) st some = some ⟨.bool false, [], 0, []⟩ := by kernel_rfl
  exact .step h ⟨d8.2.2.2.1, d8.2.2.2.2⟩ rfl .nil
theorem list8f (qa qb r : Nat) (k a : Int) (st : AS) : ListOk Tryz.prog (o8 Tryz.prog) 52 [nthO (o8 Tryz.prog) 1] ((Eh qa qb r).set 31 (.tup [.bool true, .int .i64 k, .int .i64 a])) st (Ef qa qb r k a) st := by
  have h : opE Tryz.prog (nthO (o8 Tryz.prog) 1) ((Eh qa qb r).set 31 (.tup [.bool true, .int .i64 k, .int .i64 a])) st some = some ⟨.bool true, [], 0, []⟩ := by kernel_rfl
  exact .step h ⟨d8.2.2.2.1, d8.2.2.2.2⟩ rfl .nil
theorem list9 (qa qb r : Nat) (k a : Int) (st : AS) : ListOk Tryz.prog (o9 Tryz.prog) 52 [nthO (o9 Tryz.prog) 1, nthO (o9 Tryz.prog) 2, nthO (o9 Tryz.prog) 3, nthO (o9 Tryz.prog) 4] ((Ef qa qb r k a).set 33 (.tup [.int .i64 k, .int .i64 a])) st (Eg qa qb r k a) st := by
  obtain ⟨_, _, _, d1, d2, d3, d4⟩ := d9
  have h1 : opE Tryz.prog (nthO (o9 Tryz.prog) 1) ((Ef qa qb r k a).set 33 (.tup [.int .i64 k, .int .i64 a])) st some = some ⟨.int .i64 k, [], 0, []⟩ := by kernel_rfl
  have h2 : opE Tryz.prog (nthO (o9 Tryz.prog) 2) (((Ef qa qb r k a).set 33 (.tup [.int .i64 k, .int .i64 a])).set 34 (.int .i64 k)) st some = some ⟨.int .i64 a, [], 0, []⟩ := by kernel_rfl
  have h3 : opE Tryz.prog (nthO (o9 Tryz.prog) 3) ((((Ef qa qb r k a).set 33 (.tup [.int .i64 k, .int .i64 a])).set 34 (.int .i64 k)).set 35 (.int .i64 a)) st some = some ⟨.int .i64 k, [], 0, []⟩ := by kernel_rfl
  have h4 : opE Tryz.prog (nthO (o9 Tryz.prog) 4) (((((Ef qa qb r k a).set 33 (.tup [.int .i64 k, .int .i64 a])).set 34 (.int .i64 k)).set 35 (.int .i64 a)).set 9 (.int .i64 k)) st some = some ⟨.int .i64 a, [], 0, []⟩ := by kernel_rfl
  exact .step h1 d1 rfl (.step h2 d2 rfl (.step h3 d3 rfl (.step h4 d4 rfl .nil)))
theorem less9 (qa qb r : Nat) (k a : Int) : Less (E9 qa qb r k a) (Eg qa qb r k a) := fun t => by
  have g9 : (Eg qa qb r k a).get 9 = .int .i64 k := by kernel_rfl
  have g10 : (Eg qa qb r k a).get 10 = .int .i64 a := by kernel_rfl
  unfold E9
  by_cases e10 : t = 10
  · subst e10; rw [g10]; exact Env.get_set_same _ _ _
  · rw [Env.get_set_ne e10]
    by_cases e9 : t = 9
    · subst e9; rw [g9]; exact Env.get_set_same _ _ _
    · rw [Env.get_set_ne e9]
      exact less_of (E := Eg qa qb r k a) (by kernel_rfl) t

structure JInv (κ0 : Kap) (M0 : Mem) (w0 : World) (nb next : Nat) (m : List (Nat × Row)) (qa qb r ba ca c0 : Nat) (la : Ents3) (f : Key → AV → Option AV) (seen : Array Nat) (κ : Kap) (a : Act) (w : World) : Prop where
  leN : Kap.leN nb κ0 κ
  hA : SRel κ 52 (Eh qa qb r) a
  hR : Rel κ ⟨next, (qa, .map (some .i64) (turned f seen.toList la) ca) :: m⟩ w
  fr : Fr κ0 M0 w0 κ (find ((qa, .map (some .i64) (turned f seen.toList la) ca) :: m)) w
  loc : κ.loc qa = some (some ba)
  it : w.heap[r]? = some (.mapIter (some ba) ca seen c0)
  cc : ca ≤ c0
  old : w0.heap.size ≤ r
def JEnd (κ0 : Kap) (M0 : Mem) (w0 : World) (nb next : Nat) (m : List (Nat × Row)) (qa qb r ca : Nat) (la : Ents3) (f : Key → AV → Option AV) (a : Act) (w : World) : Prop :=
  ∃ κ, Kap.leN nb κ0 κ ∧ SRel κ 52 (Eh qa qb r) a ∧ Rel κ ⟨next, (qa, .map (some .i64) (turned f (la.map fun x => x.2.1) la) ca) :: m⟩ w ∧ Fr κ0 M0 w0 κ (find ((qa, .map (some .i64) (turned f (la.map fun x => x.2.1) la) ca) :: m)) w
def body18 (P : Program) : Code := .seq (.region 8 (o8 P) false) (.seq (.cond (.tmp 32) .skip (.exit 0)) (.block 1 (.seq (.region 9 (o9 P) false) (rest18 P))))
theorem b18_body : b18 Tryz.prog = .loop (body18 Tryz.prog) := b18_eq
theorem nextRun {a : Act} {w w' : World} {v : Value} {r : Nat} (he : a.eval (.tmp 30) = .pointer (some ⟨r, 0, none⟩)) (h : (Instr.next (.pointer (some ⟨r, 0, none⟩)) false (nthO (o8 Tryz.prog) 0).type).run Tryz.prog w = .ok v w') : (execOp a.eval (nthO (o8 Tryz.prog) 0)).run Tryz.prog w = .ok (.value v) w' := by
  simp only [execOp, d8.1, he]
  exact run_value h
theorem entryRun {a : Act} {w w' : World} {v : Value} {r : Nat} (he : a.eval (.tmp 30) = .pointer (some ⟨r, 0, none⟩)) (h : (Instr.entry (.pointer (some ⟨r, 0, none⟩))).run Tryz.prog w = .ok v w') : (execOp a.eval (nthO (o9 Tryz.prog) 0)).run Tryz.prog w = .ok (.value v) w' := by
  simp only [execOp, d9.1, he]
  exact run_value h
theorem raw_of {κ : Kap} {u : Value} {y : Value} (h : VRel κ (.raw u) y) : y = u := by cases h; rfl
end
end Go.Sv
