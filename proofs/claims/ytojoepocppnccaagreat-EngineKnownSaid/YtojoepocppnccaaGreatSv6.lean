/- A second evaluator for the model's code: stores, new variables, new values. -/
import Derived.Test.YtojoepocppnccaaGreatSv5
namespace Go.Sv
noncomputable section
open Go.RowKit
variable {P : Program}

/-! ### what is handed into a list: no names -/
section
variable {R : Type}
def shed1K (m : List (Nat × Row)) (x : AV) (k : AV → List Nat → Option R) : Option R :=
  match x with
  | .bool _ | .int _ _ | .str _ | .raw _ | .sptr _ _ | .lst _ _ _ _ | .arr _ _ _ _ => k x []
  | .slc n [] o i w len _ => match find m n with
    | some (.cells c _ _) => match dropW c o with
      | some (.arr w' N f us :: _) => bif Nat.beq w w' then bif Nat.ble (add0 i len) N then
          (bif Nat.beq i 0 then k (.lst w f len us) [n] else k (.lst w (fun j => elt us f (i + j)) len []) [n]) else none else none
      | _ => none
    | _ => none
  | _ => none
def shedK (m : List (Nat × Row)) : List AV → (List AV → List Nat → Option R) → Option R
  | [], k => k [] []
  | x :: xs, k => shed1K m x fun y ns => shedK m xs fun ys ns' => k (y :: ys) (ns ++ ns')
end
/-- The rows that stay from now on. -/
def frz (m : List (Nat × Row)) : List Nat → List (Nat × Option Row)
  | [] => []
  | n :: ns => match find m n with
    | some (.cells c _ tip) => (n, some (.cells c false tip)) :: frz m ns
    | _ => frz m ns

theorem MRel.freezeAll {κ : Kap} {w : World} {m : List (Nat × Row)} : ∀ (ns : List Nat) {M : Mem}, MRel κ M w → (∀ n ∈ ns, (∀ c o t, find m n = some (.cells c o t) → M n = some (.cells c o t) ∨ M n = some (.cells c false t))) →
    ∃ κ', κ.le κ' ∧ κ'.loc = κ.loc ∧ MRel κ' (M.sets (frz m ns)) w ∧ Fr κ M w κ' (M.sets (frz m ns)) w ∧ (∀ n, n ∉ ns → M.sets (frz m ns) n = M n) ∧
      (∀ n ∈ ns, ∀ c o t, find m n = some (.cells c o t) → M.sets (frz m ns) n = some (.cells c false t))
  | [], M, h, _ => ⟨κ, Kap.le_refl κ, rfl, h, Fr.refl κ M w, fun _ _ => rfl, fun n hn => by cases hn⟩
  | n :: ns, M, h, hM => by
    cases hf : find m n with
    | none =>
      obtain ⟨κ', a1, a2, a3, a4, a5, a6⟩ := MRel.freezeAll ns h fun n' hn' => hM n' (List.mem_cons_of_mem _ hn')
      have e : frz m (n :: ns) = frz m ns := by simp only [frz, hf]
      rw [e]
      exact ⟨κ', a1, a2, a3, a4, fun n' hn' => a5 n' fun h => hn' (List.mem_cons_of_mem _ h), fun n' hn' c o t h => by
        rcases List.mem_cons.1 hn' with rfl | hn'
        · rw [hf] at h; cases h
        · exact a6 n' hn' c o t h⟩
    | some r =>
      cases r with
      | map a b d =>
        obtain ⟨κ', a1, a2, a3, a4, a5, a6⟩ := MRel.freezeAll ns h fun n' hn' => hM n' (List.mem_cons_of_mem _ hn')
        have e : frz m (n :: ns) = frz m ns := by simp only [frz, hf]
        rw [e]
        exact ⟨κ', a1, a2, a3, a4, fun n' hn' => a5 n' fun h => hn' (List.mem_cons_of_mem _ h), fun n' hn' c o t h => by
          rcases List.mem_cons.1 hn' with rfl | hn'
          · rw [hf] at h; cases h
          · exact a6 n' hn' c o t h⟩
      | ptab xs =>
        obtain ⟨κ', a1, a2, a3, a4, a5, a6⟩ := MRel.freezeAll ns h fun n' hn' => hM n' (List.mem_cons_of_mem _ hn')
        have e : frz m (n :: ns) = frz m ns := by simp only [frz, hf]
        rw [e]
        exact ⟨κ', a1, a2, a3, a4, fun n' hn' => a5 n' fun h => hn' (List.mem_cons_of_mem _ h), fun n' hn' c o t h => by
          rcases List.mem_cons.1 hn' with rfl | hn'
          · rw [hf] at h; cases h
          · exact a6 n' hn' c o t h⟩
      | cells c o t =>
        have e : frz m (n :: ns) = (n, some (.cells c false t)) :: frz m ns := by simp only [frz, hf]
        have hstep : ∃ κ1, κ.le κ1 ∧ κ1.loc = κ.loc ∧ MRel κ1 (M.set n (some (.cells c false t))) w ∧ Fr κ M w κ1 (M.set n (some (.cells c false t))) w := by
          have hsame : M n = some (.cells c false t) → ∃ κ1, κ.le κ1 ∧ κ1.loc = κ.loc ∧ MRel κ1 (M.set n (some (.cells c false t))) w ∧ Fr κ M w κ1 (M.set n (some (.cells c false t))) w := fun hs => by
            have : M.set n (some (.cells c false t)) = M := funext fun x => by
              by_cases e : x = n
              · subst e; rw [Mem.set_same, hs]
              · rw [Mem.set_ne _ _ e]
            rw [this]; exact ⟨κ, Kap.le_refl κ, rfl, h, Fr.refl κ M w⟩
          rcases hM n (List.mem_cons_self ..) c o t hf with h1 | h1
          · cases o with
            | true => exact h.freeze h1
            | false => exact hsame h1
          · exact hsame h1
        obtain ⟨κ1, b1, b2, b3, b4⟩ := hstep
        obtain ⟨κ', a1, a2, a3, a4, a5, a6⟩ := MRel.freezeAll (m := m) ns b3 fun n' hn' c' o' t' hf' => by
          by_cases e : n' = n
          · subst e; rw [hf] at hf'; cases hf'; rw [Mem.set_same]; exact .inr rfl
          · rw [Mem.set_ne _ _ e]; exact hM n' (List.mem_cons_of_mem _ hn') c' o' t' hf'
        rw [e]
        refine ⟨κ', Kap.le_trans b1 a1, a2.trans b2, a3, b4.trans a4, fun n' hn' => ?_, fun n' hn' c' o' t' hf' => ?_⟩
        · show (M.set n _).sets (frz m ns) n' = M n'
          rw [a5 n' fun h => hn' (List.mem_cons_of_mem _ h), Mem.set_ne _ _ fun e => hn' (by rw [e]; exact List.mem_cons_self ..)]
        · show (M.set n _).sets (frz m ns) n' = _
          by_cases hin : n' ∈ ns
          · exact a6 n' hin c' o' t' hf'
          · rcases List.mem_cons.1 hn' with rfl | hn'
            · rw [hf] at hf'; cases hf'
              rw [a5 n' hin, Mem.set_same]
            · exact absurd hn' hin

theorem shed1K_ok {R : Type} {m : List (Nat × Row)} {x : AV} {k : AV → List Nat → Option R} {r : R} (h : shed1K m x k = some r) :
    ∃ y ns, k y ns = some r ∧ width y = width x ∧ (∀ n ∈ ns, ∃ c o t, find m n = some (.cells c o t)) ∧
      ∀ (κ : Kap) (w : World) (M : Mem), MRel κ M w → (∀ n ∈ ns, ∀ c o t, find m n = some (.cells c o t) → M n = some (.cells c false t)) → ∀ ys, CRel κ [x] ys → CRel κ.nl [y] ys := by
  have simple : (k x [] = some r) → (∀ κ ys, CRel κ [x] ys → CRel κ.nl [x] ys) → ∃ y ns, k y ns = some r ∧ width y = width x ∧ (∀ n ∈ ns, ∃ c o t, find m n = some (.cells c o t)) ∧
      ∀ (κ : Kap) (w : World) (M : Mem), MRel κ M w → (∀ n ∈ ns, ∀ c o t, find m n = some (.cells c o t) → M n = some (.cells c false t)) → ∀ ys, CRel κ [x] ys → CRel κ.nl [y] ys :=
    fun hk hx => ⟨x, [], hk, rfl, (fun n hn => by cases hn), fun κ w M _ _ ys hy => hx κ ys hy⟩
  unfold shed1K at h
  split at h
  · exact simple h fun κ ys hy => by cases hy with | bool _ hn => cases hn; exact .bool _ .nil
  · exact simple h fun κ ys hy => by cases hy with | int _ _ hn => cases hn; exact .int _ _ .nil
  · exact simple h fun κ ys hy => by cases hy with | str _ hn => cases hn; exact .str _ .nil
  · exact simple h fun κ ys hy => by cases hy with | raw _ hn => cases hn; exact .raw _ .nil
  · exact simple h fun κ ys hy => by cases hy with | sptr _ cs zs b off p _ h1 h2 h3 h4 hn => cases hn; exact .sptr _ cs zs b off p _ h1 h2 h3 h4 .nil
  · exact simple h fun κ ys hy => by
      cases hy with
      | lst _ _ b off cap _ _ cs h1 h2 h3 ho h4 h5 hn => cases hn; exact .lst _ _ b off cap _ _ cs h1 h2 h3 ho h4 h5 .nil
      | lst0 _ cap _ _ a hn => cases hn; exact .lst0 _ cap _ _ a .nil
  · exact simple h fun κ ys hy => by cases hy with | arr _ _ _ _ zs h1 ho h2 h3 h4 hn => cases hn; exact .arr _ _ _ _ zs h1 ho h2 h3 h4 .nil
  · rename_i n o i w len cap
    split at h
    · rename_i c own tip hf
      split at h
      · rename_i w' N f us rest hd
        obtain ⟨hw, g1⟩ := cond_some h; clear h
        obtain ⟨hb, h⟩ := cond_some g1; clear g1
        have hw := Nat.eq_of_beq_eq_true hw
        subst hw
        have hb := Nat.le_of_ble_eq_true hb
        rw [add0_eq] at hb
        have key : ∀ (g : Nat → List AV) (us' : List (Nat × List AV)), (∀ j, elt us' g j = elt us f (i + j)) →
            ∀ (κ : Kap) (w0 : World) (M : Mem), MRel κ M w0 → (∀ n' ∈ [n], ∀ c o t, find m n' = some (.cells c o t) → M n' = some (.cells c false t)) → ∀ ys, CRel κ [.slc n [] o i w len cap] ys → CRel κ.nl [.lst w g len us'] ys := by
          intro g us' hg κ w0 M hR hM ys hy
          have hrow := hM n (List.mem_singleton.2 rfl) c own tip hf
          cases hy with
          | slc _ _ _ _ _ _ _ b cap' a h1 h2 h3 h4 hn =>
            cases hn
            by_cases hl : len = 0
            · subst hl; exact .lst0 w cap' g us' _ .nil
            · obtain ⟨ha, s, hs1, hs2⟩ := h2.resolve_left (by omega)
              subst ha
              rcases hR.row n _ hrow with ⟨g1, _⟩ | ⟨b', zs, rst, e, fr, g1, g2, g3, g4, g5, g6, g7⟩
              · rw [h1] at g1; cases g1
              · rw [h1] at g1; cases g1
                obtain ⟨a1, a2⟩ := g3.dropW hd
                obtain ⟨c1, c2, c3, c4⟩ := a1.arr_inv
                have hst : κ.nl.st b = some zs := (g6 rfl)
                simp only [List.length_drop] at c1
                have hle : (i + len) * w ≤ N * w := Nat.mul_le_mul_right w hb
                rw [Nat.add_mul] at hle
                have hoff : plen [] + o + i * w = o + i * w := by simp [plen]
                rw [hoff]
                refine .lst w len b (o + i * w) cap' g us' zs hst (by omega) h4 (fun z hz => ?_) (fun j hj => ?_) (fun j hj => ?_) .nil
                · have hone := a1.arr_one
                  refine hone z ?_
                  have e1 : (zs.drop (o + i * w)).take (len * w) = ((((zs.drop o).take (N * w)).drop (i * w)).take (len * w)) := by
                    rw [List.drop_take, List.take_take, List.drop_drop, Nat.min_eq_left (by omega)]
                  rw [e1] at hz
                  exact List.mem_of_mem_drop (List.mem_of_mem_take hz)
                · rw [hg]; exact c2 _ (by omega)
                · rw [hg]
                  have := c3 (i + j) (by omega)
                  rw [List.drop_drop, Nat.add_mul] at this
                  rw [show o + i * w + j * w = o + (i * w + j * w) from by omega]
                  exact this
          | slc0 _ _ _ _ _ h1 hn => cases hn; exact .lst0 w 0 g us' _ .nil
        cases hi : Nat.beq i 0 <;> rw [hi] at h
        · exact ⟨_, _, h, rfl, fun n' hn' => by rw [List.mem_singleton.1 hn']; exact ⟨c, own, tip, hf⟩, key _ [] fun j => rfl⟩
        · have := Nat.eq_of_beq_eq_true hi
          subst this
          exact ⟨_, _, h, rfl, fun n' hn' => by rw [List.mem_singleton.1 hn']; exact ⟨c, own, tip, hf⟩, key f us fun j => by rw [Nat.zero_add]⟩
      · cases h
    · cases h
  · cases h

theorem shedK_ok {R : Type} {m : List (Nat × Row)} {r : R} : ∀ (xs : List AV) {k : List AV → List Nat → Option R}, shedK m xs k = some r →
    ∃ ys ns, k ys ns = some r ∧ cw ys = cw xs ∧ (∀ n ∈ ns, ∃ c o t, find m n = some (.cells c o t)) ∧
      ∀ (κ : Kap) (w : World) (M : Mem), MRel κ M w → (∀ n ∈ ns, ∀ c o t, find m n = some (.cells c o t) → M n = some (.cells c false t)) → ∀ zs, CRel κ xs zs → CRel κ.nl ys zs
  | [], k, h => ⟨[], [], h, rfl, (fun n hn => by cases hn), fun κ w M _ _ zs hz => by cases hz; exact .nil⟩
  | x :: xs, k, h => by
    simp only [shedK] at h
    obtain ⟨y, ns, h1, h2, h3, h4⟩ := shed1K_ok h
    obtain ⟨ys, ns', g1, g2, g3, g4⟩ := shedK_ok xs h1
    refine ⟨_, _, g1, by simp [cw, h2, g2], fun n hn => ?_, fun κ w M hR hM zs hz => ?_⟩
    · rcases List.mem_append.1 hn with h | h
      · exact h3 n h
      · exact g3 n h
    · obtain ⟨z1, z2, rfl, a1, a2⟩ := hz.cons_inv
      have b1 := h4 κ w M hR (fun n hn => hM n (List.mem_append_left _ hn)) z1 a1
      have b2 := g4 κ w M hR (fun n hn => hM n (List.mem_append_right _ hn)) z2 a2
      simpa using b1.append b2

def memB : List Nat → Nat → Bool
  | [], _ => false
  | x :: xs, n => bif Nat.beq x n then true else memB xs n
theorem memB_false : ∀ {l : List Nat} {n : Nat}, memB l n = false → n ∉ l
  | [], _, _ => by simp
  | x :: xs, n, h => by
    simp only [memB] at h
    cases hb : Nat.beq x n <;> rw [hb] at h
    · intro hn
      rcases List.mem_cons.1 hn with rfl | hn
      · rw [Nat.beq_refl] at hb; cases hb
      · exact memB_false h hn
    · cases h

/-! ### stores -/
/-- No cell of what is stored is a struct, or of several values. -/
def flatC : List AV → Bool
  | [] => true
  | x :: xs => (match x with | .arr _ _ _ _ => true | x => one x) && flatC xs
theorem flatC_one {κ : Kap} : ∀ {c : List AV} {zs : List Value}, flatC c = true → CRel κ c zs → ∀ z ∈ zs, oneV z = true
  | [], zs, _, r => by cases r; intro z hz; cases hz
  | x :: xs, zs, h, r => by
    simp only [flatC, Bool.and_eq_true] at h
    obtain ⟨h1, h2⟩ := h
    by_cases hx : isArr x = true
    · cases x <;> first | (simp [isArr] at hx; done) | skip
      cases r with
      | arr _ _ _ _ zs h1 ho h2' h3 h4 h5 =>
        subst h4
        intro z hz
        rcases List.mem_append.1 hz with h | h
        · exact ho z h
        · exact flatC_one h2 h5 z h
    · have hx' : isArr x = false := by simpa using hx
      obtain ⟨y, ys, rfl, h3, h4⟩ := r.head hx'
      have ho : one x = true := by cases x <;> first | exact h1 | (simp [isArr] at hx'; done)
      intro z hz
      rcases List.mem_cons.1 hz with rfl | hz
      · exact oneV_of h3 ho
      · exact flatC_one h2 h4 z hz
section
variable {R : Type} (P)
def storeE (t : TypeId) (x y : Operand) (E : Env) (m : List (Nat × Row)) (k : Ent → Option R) : Option R :=
  match aeval E x with
  | some (.ptr n ps o) => match aeval E y with
    | some v => match qrun P (sizeOf t) with
      | some s => match find m n with
        | some (.cells c true tip) => bif celled v && (flatC (cells v) && Nat.beq (cw (cells v)) s) then
            match ps with
            | [] => putK [] c o s (cells v) fun c' => k ⟨.raw undef, [(n, some (.cells c' true tip))], 0, [n]⟩
            | p :: ps => shedK m (cells v) fun vs ns => bif memB ns n then none else putK (p :: ps) c o s vs fun c' => k ⟨.raw undef, frz m ns ++ [(n, some (.cells c' true tip))], 0, n :: ns⟩
          else none
        | _ => none
      | none => none
    | none => none
  | _ => none
end
theorem Mem.sets_append (M : Mem) : ∀ (a b : List (Nat × Option Row)), M.sets (a ++ b) = (M.sets a).sets b
  | [], b => rfl
  | (n, r) :: a, b => by simp only [List.cons_append, Mem.sets]; exact Mem.sets_append _ a b

theorem storeRun {o : Oper} {t : TypeId} {x y : Operand} (ho : o.op = .store t x y) {a : Act} {w : World} {b off s : Nat} {e : TypeId} {c : Array Value} (hx : a.eval x = .pointer (some ⟨b, off, none⟩)) (hs : qrun P (sizeOf t) = some s)
    (hb : w.heap[b]? = some (.cells c e (0, 0))) (hlen : (a.eval y).cells.size = s) (hfit : off + s ≤ c.size) (hone : ∀ v ∈ (a.eval y).cells.toList, oneV v = true) :
    (execOp a.eval o).run P w = .ok .skip (World.putBlk w b (.cells (splice c.toList off (a.eval y).cells.toList).toArray e (0, 0))) := by
  simp only [execOp, ho]
  refine run_skip ?_
  simp only [Instr.storeAt, hx, Instr.sureAddr]
  refine (run_bind_ok (a := ⟨b, off, none⟩) (w' := w) rfl).trans ?_
  unfold storeVar
  refine (run_q hs).trans ?_
  simp only [hlen, ne_eq, not_true_eq_false, if_false]
  have := run_storeCells (P := P) off (a.eval y).cells.toList 0 c w hb (by simp [hlen]; omega) hone
  simpa using this

theorem storeE_ok {R : Type} {o : Oper} {t : TypeId} {x y : Operand} (ho : o.op = .store t x y) {E : Env} {m : List (Nat × Row)} {k : Ent → Option R} {r : R} (h : storeE P t x y E m k = some r) {next : Nat} :
    ∃ e, k e = some r ∧ OpOk P o E next (find m) e := by
  have hmx : x ∈ o.op.operands := by rw [ho]; simp [Op.operands]
  have hmy : y ∈ o.op.operands := by rw [ho]; simp [Op.operands]
  unfold storeE at h
  split at h
  · rename_i n ps off hx
    split at h
    · rename_i v hy
      split at h
      · rename_i s hs
        split at h
        · rename_i c tip hf
          obtain ⟨hb, h⟩ := cond_some h
          simp only [Bool.and_eq_true] at hb
          obtain ⟨hcel, hflat, hsz⟩ := hb
          have hsz := Nat.eq_of_beq_eq_true hsz
          split at h
          · obtain ⟨c', h1, h2⟩ := putK_ok _ h
            refine ⟨_, h1, fun κ a w M K Q hA hR hrd _ hK => ?_⟩
            have hp := hA x hmx _ hx
            have hv := hA y hmy _ hy
            have hM : M n = some (.cells c true tip) := by rw [hrd n (List.mem_singleton.2 rfl)]; exact hf
            generalize hea : a.eval x = ev at hp
            cases hp with
            | ptr _ p _ b _ h3 h4 _ =>
              rcases hR.row n _ hM with ⟨g1, _⟩ | ⟨b', zs, rest, e, fr, g1, g2, g3, g4, g5, g6, g7⟩
              · rw [h3] at g1; cases g1
              · rw [h3] at g1; cases g1
                obtain ⟨rfl, hst⟩ := g5 rfl
                have hc := cells_rel hv hcel
                have hone := flatC_one hflat hc
                have hl := hc.length
                rw [hsz] at hl
                obtain ⟨q1, q2⟩ := h2 κ zs _ g3 (by rw [if_pos rfl]; exact hc) hsz hone
                have hrun := storeRun (P := P) ho hea hs g2 (by simpa using hl) (by simp only [plen] at q2 h4; simp; omega) hone
                refine wp_skip' hrun ?_
                have e1 : splice (zs ++ rest).toArray.toList p (a.eval y).cells.toList = splice zs p (a.eval y).cells.toList ++ rest := by
                  have hp' : p + (a.eval y).cells.toList.length ≤ zs.length := by rw [h4]; exact q2
                  unfold splice
                  simp only [List.take_append_of_le_length (show p ≤ zs.length by omega), List.drop_append_of_le_length hp', List.append_assoc]
                rw [e1]
                have hrow : RowRel κ (World.putBlk w b (.cells (splice zs p (a.eval y).cells.toList ++ rest).toArray e (0, 0))) n (.cells c' true tip) :=
                  .inr ⟨b, _, rest, e, (0, 0), h3, putBlk_same g2, by rw [h4]; exact q1, g4, fun _ => ⟨rfl, hst⟩, (fun h => by cases h), by rw [g7]; simp [splice_length _ _ _ (show p + (a.eval y).cells.toList.length ≤ zs.length by rw [h4]; exact q2)]⟩
                obtain ⟨k1, k2⟩ := hR.put hM rfl h3 hrow
                exact hK κ undef _ (Kap.le_refl κ) (fun _ _ => rfl) (.raw undef .nil) k1 k2
          · rename_i p0 ps0
            obtain ⟨vs, ns, h1, h2, h3, h4⟩ := shedK_ok _ h
            obtain ⟨hmem, h5⟩ := cond_some' h1
            obtain ⟨c', h6, h7⟩ := putK_ok _ h5
            refine ⟨_, h6, fun κ a w M K Q hA hR hrd _ hK => ?_⟩
            have hp := hA x hmx _ hx
            have hv := hA y hmy _ hy
            have hM : M n = some (.cells c true tip) := by rw [hrd n (List.mem_cons_self ..)]; exact hf
            obtain ⟨κ', a1, a2, a3, a4, a5, a6⟩ := MRel.freezeAll (m := m) ns hR fun n' hn' c0 o0 t0 h0 => .inl (by rw [hrd n' (List.mem_cons_of_mem _ hn')]; exact h0)
            have hM' : (M.sets (frz m ns)) n = some (.cells c true tip) := by rw [a5 n (memB_false hmem)]; exact hM
            have hv' := hv.mono a1
            generalize hea : a.eval x = ev at hp
            cases hp with
            | ptr _ p _ b _ g0 g00 _ =>
              have hloc : κ'.loc n = some (some b) := by rw [a2]; exact g0
              rcases a3.row n _ hM' with ⟨g1, _⟩ | ⟨b', zs, rest, e, fr, g1, g2, g3, g4, g5, g6, g7⟩
              · rw [hloc] at g1; cases g1
              · rw [hloc] at g1; cases g1
                obtain ⟨rfl, hst⟩ := g5 rfl
                have hc := cells_rel hv' hcel
                have hone := flatC_one hflat hc
                have hl := hc.length
                rw [hsz] at hl
                have hcn := h4 κ' w _ a3 (fun n' hn' c0 o0 t0 h0 => a6 n' hn' c0 o0 t0 h0) _ hc
                obtain ⟨q1, q2⟩ := h7 κ' zs _ g3 (by rw [if_neg (by simp)]; exact hcn) (by rw [h2, hsz]) hone
                have hrun := storeRun (P := P) ho hea hs g2 (by simpa using hl) (by simp; omega) hone
                refine wp_skip' hrun ?_
                have hp' : p + (a.eval y).cells.toList.length ≤ zs.length := by rw [g00]; exact q2
                have e1 : splice (zs ++ rest).toArray.toList p (a.eval y).cells.toList = splice zs p (a.eval y).cells.toList ++ rest := by
                  unfold splice
                  simp only [List.take_append_of_le_length (show p ≤ zs.length by omega), List.drop_append_of_le_length hp', List.append_assoc]
                rw [e1]
                have hrow : RowRel κ' (World.putBlk w b (.cells (splice zs p (a.eval y).cells.toList ++ rest).toArray e (0, 0))) n (.cells c' true tip) :=
                  .inr ⟨b, _, rest, e, (0, 0), hloc, putBlk_same g2, by rw [g00]; exact q1, g4, fun _ => ⟨rfl, hst⟩, (fun h => by cases h), by rw [g7]; simp [splice_length _ _ _ hp']⟩
                obtain ⟨k1, k2⟩ := a3.put hM' rfl hloc hrow
                refine hK κ' undef _ a1 (fun n _ => by rw [a2]) (.raw undef .nil) ?_ ?_
                · show MRel κ' (M.sets (frz m ns ++ [(n, some (.cells c' true tip))])) _
                  rw [Mem.sets_append]; exact k1
                · show Fr κ M w κ' (M.sets (frz m ns ++ [(n, some (.cells c' true tip))])) _
                  rw [Mem.sets_append]; exact a4.trans k2
        · cases h
      · cases h
    · cases h
  · cases h
end
end Go.Sv
