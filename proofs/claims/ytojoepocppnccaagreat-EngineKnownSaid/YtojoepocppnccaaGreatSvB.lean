/- A second evaluator for the model's code: appending is sound. -/
import Derived.Test.YtojoepocppnccaaGreatSvA
namespace Go.Sv
noncomputable section
open Go.RowKit
variable {P : Program}

def LIM : Nat := 140737488355328
def kindOk (P : Program) (tx : TypeId) (v : AV) : Bool :=
  match P.underlying tx with
  | some (.slice _) => match v with
    | .slc _ _ _ _ _ _ _ => true
    | .lst _ _ _ _ => true
    | .raw (.slice none 0 0) => true
    | .raw (.slice (some _) 0 _) => true
    | _ => false
  | some .string => match v with
    | .str _ => true
    | _ => false
  | _ => false
section
variable {R : Type} (P)
def appendE (t tx : TypeId) (x y : Operand) (E : Env) (st : AS) (k : Ent → Option R) : Option R :=
  match P.underlying t with
  | some (.slice e) => match P.info? e with
    | some i => match i.zero with
      | some _ => match zeroT P e with
       | some zc => bif Nat.ble 1 i.bytes && (Nat.ble 1 i.size && Nat.beq (cw zc) i.size) then
        match aeval E y with
        | some yv => bif kindOk P tx yv then srcK st.mem yv fun W f us cnt rd => bif Nat.beq W i.size || Nat.beq cnt 0 then
            match aeval E x with
            | some (.raw (.slice none 0 0)) => bif Nat.ble (cnt * i.bytes) LIM then
                k ⟨.slc st.next [] 0 0 i.size cnt cnt, [(st.next, some (.cells [.arr i.size cnt f us] true true))], 1, rd⟩ else none
            | some (.slc n [] 0 0 w len _) => match find st.mem n with
              | some (.cells [.arr w' N f0 us0] true _) => bif Nat.beq w i.size && Nat.beq w' i.size then bif Nat.ble len N then bif Nat.ble ((len + cnt) * i.bytes) LIM then
                  match us with
                  | [(j, c)] => bif Nat.beq j 0 && Nat.beq cnt 1 then
                      k ⟨.slc st.next [] 0 0 i.size (len + 1) (len + 1), [(n, none), (st.next, some (.cells [.arr i.size (len + 1) f0 ((len, c) :: us0)] true true))], 1, n :: rd⟩
                      else k ⟨.slc st.next [] 0 0 i.size (len + cnt) (len + cnt), [(n, none), (st.next, some (.cells [.arr i.size (len + cnt) (catF len us0 f0 us f) []] true true))], 1, n :: rd⟩
                  | _ => k ⟨.slc st.next [] 0 0 i.size (len + cnt) (len + cnt), [(n, none), (st.next, some (.cells [.arr i.size (len + cnt) (catF len us0 f0 us f) []] true true))], 1, n :: rd⟩
                else none else none else none
              | _ => none
            | _ => none
          else none else none
        | none => none
        else none
       | none => none
      | none => none
    | none => none
  | _ => none
end

theorem oneCell_of {v : Value} (h : oneV v = true) : v.oneCell' = true := by cases v <;> first | rfl | (simp [oneV] at h; done)
theorem callRun2 {o : Oper} {c : Call} {b : Builtin} (ho : o.op = .call c) (hc : c.callee = .builtin b) {x y : Operand} (hx0 : c.args.toList = [x, y]) {t tx : TypeId} (ht0 : c.argTypes.toList = [t, tx]) {a : Act} {w w' : World} {v : Value}
    (h : ∀ consts, (builtin b #[t, tx] o.type consts #[a.eval x, a.eval y]).run P w = .ok (.value v) w') : (execOp a.eval o).run P w = .ok (.value v) w' := by
  have e1 : c.args = #[x, y] := by apply Array.ext'; simpa using hx0
  have e2 : c.argTypes = #[t, tx] := by apply Array.ext'; simpa using ht0
  simp only [execOp, ho]
  unfold resolve
  rw [hc, e1, e2]
  refine (run_bind_ok (a := ⟨.builtin b #[t, tx] o.type _, #[a.eval x, a.eval y]⟩) (w' := w) (by simp; rfl)).trans ?_
  unfold invoke
  exact h _

theorem SrcOk.src {κ : Kap} {w : World} {y : Value} {W : Nat} {f : Nat → List AV} {us : List (Nat × List AV)} {cnt : Nat} (h : SrcOk κ w y W f us cnt) {tx : TypeId} {yv : AV} (hk : kindOk P tx yv = true) (hv : VRel κ yv y) {s : Nat} (hs : W = s ∨ cnt = 0) :
    ∃ news, CRel κ [.arr s cnt f us] news ∧ Src P s tx y cnt news w := by
  obtain ⟨news, hc, h⟩ := h
  have hkind : (∀ l, y ≠ .string l) → ∃ e', P.underlying tx = some (.slice e') := by
    intro hne
    unfold kindOk at hk
    split at hk
    · rename_i e' hu; exact ⟨e', hu⟩
    · split at hk
      · cases hv; exact absurd rfl (hne _)
      · cases hk
    · cases hk
  by_cases h0 : cnt = 0
  · subst h0
    rcases h with ⟨a, c, b, off, rfl, _⟩ | ⟨c, rfl, _⟩ | ⟨l, rfl, hW, hl, _⟩
    · obtain ⟨e', hu⟩ := hkind (fun l h => by cases h)
      exact ⟨[], arr_none, Src.ofSlice w hu a 0 c [] (by simp) (fun j u h => by simp at h) (by simp)⟩
    · obtain ⟨e', hu⟩ := hkind (fun l h => by cases h)
      exact ⟨[], arr_none, Src.ofNil w hu c⟩
    · have hl' : l = [] := by cases l <;> simp at hl ⊢
      subst hl'
      refine ⟨[], arr_none, ?_⟩
      have hu : P.underlying tx = some .string := by
        unfold kindOk at hk
        split at hk
        · split at hk <;> first | (cases hv; done) | (cases hk; done)
        · assumption
        · cases hk
      exact ⟨.inr hu, fun _ => rfl, by simp [Builtin.firstCells], by simp [Builtin.firstCells], by simp, by simp⟩
  · have hW : W = s := hs.resolve_right h0
    subst hW
    refine ⟨news, hc, ?_⟩
    obtain ⟨b1, bo, b2, b3⟩ := arr_parts.1 hc
    rcases h with ⟨a, c, b, off, rfl, h⟩ | ⟨c, rfl, hl⟩ | ⟨l, rfl, rfl, rfl, rfl⟩
    · obtain ⟨rfl, cs, e, fr, hb, hle, hn⟩ := h.resolve_left h0
      obtain ⟨e', hu⟩ := hkind (fun l h => by cases h)
      refine Src.ofSlice w hu _ cnt c news b1 (fun j u hj => ?_) (fun u hu => oneCell_of (bo u hu))
      rw [addr_add, cell_blk hb]
      rw [hn, List.getElem?_take] at hj
      split at hj
      · rw [List.getElem?_drop] at hj; simpa using hj
      · cases hj
    · exact absurd hl h0
    · have hu : P.underlying tx = some .string := by
        unfold kindOk at hk
        split at hk
        · split at hk <;> first | (cases hv; done) | (cases hk; done)
        · assumption
        · cases hk
      have : l.length = (⟨l.toArray⟩ : ByteArray).size := by simp [ByteArray.size]
      rw [this]
      exact Src.ofString w hu ⟨l.toArray⟩

theorem Fr.drew {κ κ' : Kap} {M M' : Mem} {w w' : World} (h : Fr κ M w.drew κ' M' w') : Fr κ M w κ' M' w' := ⟨h.sts, h.os, h.tape, h.output, h.size, h.keep, h.owns⟩

/-- A list that has no room: a new block. -/
theorem grow_ok {t tx ty e : TypeId} {i : TypeInfo} {z : Value} (ht : P.underlying t = some (.slice e)) (hi : P.info? e = some i) (hz : i.zero = some z) (hb1 : 1 ≤ i.bytes) (hzs : z.cells.size = i.size) {base : Option Addr} {len cap' : Nat} {olds : List Value} {w : World}
    (hold : (Builtin.firstCells i.size len (.slice base len cap')).run P w.drew = .ok olds.toArray w.drew) {y : Value} {cnt : Nat} {news : List Value} (hs : Src P i.size tx y cnt news w) (hg : cap' < len + cnt) (hlim : (len + cnt) * i.bytes ≤ LIM)
    {κ : Kap} {M : Mem} (hR : MRel κ M w) {next : Nat} (hn : κ.loc next = none) {c : List AV} (hcw : cw c = (len + cnt) * i.size) (hc : CRel κ c (olds ++ news)) :
    ∃ κ' v' w', (Builtin.append_ #[t, tx] ty #[.slice base len cap', y]).run P w = .ok v' w' ∧ κ.le κ' ∧ (∀ n, n ≠ next → κ'.loc n = κ.loc n) ∧ VRel κ' (.slc next [] 0 0 i.size (len + cnt) (len + cnt)) v' ∧
      MRel κ' (M.set next (some (.cells c true true))) w' ∧ Fr κ M w κ' (M.set next (some (.cells c true true))) w' := by
  have h63 : ((len + cnt : Nat) : Int) ≤ 9223372036854775807 := by
    have : len + cnt ≤ (len + cnt) * i.bytes := Nat.le_mul_of_pos_right _ hb1
    unfold LIM at hlim
    omega
  have hrun := run_append_grow_src w t tx ty e i z ht hi hz base len cap' olds hold y cnt news hs hg h63 (growslice_fits hg hlim)
  have hRd : MRel κ M w.drew := hR.heap rfl
  have e1 : (olds ++ news).toArray ++ Builtin.zeroCells z.cells (grownCap w (len + cnt) cap' e - (len + cnt)) = ((olds ++ news) ++ (Builtin.zeroCells z.cells (grownCap w (len + cnt) cap' e - (len + cnt))).toList).toArray := by
    apply Array.ext'; simp
  rw [e1] at hrun
  obtain ⟨h1, h2, h3, h4⟩ := new_row hRd hn (e := e) (rest := (Builtin.zeroCells z.cells (grownCap w (len + cnt) cap' e - (len + cnt))).toList) (tip := true) hc (fun h => by cases h)
  have hcap := grownCap_ge w (len + cnt) cap' e
  have hl := hc.length
  rw [hcw] at hl
  refine ⟨_, _, _, hrun, h1, fun n hne => Kap.at_ne hne, ?_, h2, h3.drew⟩
  refine .slc _ _ _ _ _ _ _ w.heap.size _ _ h4 (.inr ⟨by simp [plen], (olds ++ news ++ (Builtin.zeroCells z.cells (grownCap w (len + cnt) cap' e - (len + cnt))).toList).length, by simp [Kap.new, Kap.at, Kap.blk], ?_⟩) hcap hcap .nil
  have hzl : (Builtin.zeroCells z.cells (grownCap w (len + cnt) cap' e - (len + cnt))).toList.length = (grownCap w (len + cnt) cap' e - (len + cnt)) * i.size := by simp [Builtin.zeroCells, hzs]
  rw [List.length_append, hl, hzl, ← Nat.add_mul]
  simp only [plen, Nat.zero_mul, Nat.zero_add]
  exact Nat.mul_le_mul_right _ (by omega)

/-- A row of one's own goes on under another name. -/
theorem MRel.rename {κ : Kap} {M : Mem} {w : World} (h : MRel κ M w) {n b next : Nat} {c : List AV} {tip : Bool} (hn : M n = some (.cells c true tip)) (hb : κ.loc n = some (some b)) (hx : κ.loc next = none) :
    MRel (κ.at next (some b)) ((M.set n none).set next (some (.cells c true tip))) w ∧ Fr κ M w (κ.at next (some b)) ((M.set n none).set next (some (.cells c true tip))) w := by
  have hsub : MRel κ (M.set n none) w := h.sub fun m r hm => by
    by_cases e : m = n
    · subst e; rw [Mem.set_same] at hm; cases hm
    · rw [Mem.set_ne _ _ e] at hm; exact hm
  have hrow : RowRel (κ.at next (some b)) w next (.cells c true tip) := by
    rcases h.row n _ hn with ⟨h1, _⟩ | ⟨b', zs, rest, e, fr, h1, h2, h3, h4, h5, h6, h7⟩
    · rw [hb] at h1; cases h1
    · rw [hb] at h1; cases h1
      exact .inr ⟨b, zs, rest, e, fr, Kap.at_same, h2, h3.mono (Kap.at_le hx), h4, h5, h6, h7⟩
  refine ⟨hsub.name hx (fun m r hm hbm => ?_) hrow, (fun _ _ h => .inl h), rfl, rfl, rfl, Nat.le_refl _, fun _ _ _ => rfl, fun b' hb' ho => ?_⟩
  · by_cases e : m = n
    · subst e; rw [Mem.set_same] at hm; cases hm
    · rw [Mem.set_ne _ _ e] at hm
      exact e (h.inj n m _ r b hn hm hb hbm rfl).symm
  · obtain ⟨m, r, h1, h2, h3⟩ := ho
    by_cases e : m = next
    · subst e; rw [Kap.at_same] at h3; cases h3
      exact ⟨n, _, hn, rfl, hb⟩
    · rw [Mem.set_ne _ _ e] at h1; rw [Kap.at_ne e] at h3
      by_cases e2 : m = n
      · subst e2; rw [Mem.set_same] at h1; cases h1
      · rw [Mem.set_ne _ _ e2] at h1; exact ⟨m, r, h1, h2, h3⟩
/-- A row less, and what is left as it was. -/
theorem MRel.drop {κ : Kap} {M : Mem} {w : World} (h : MRel κ M w) (n : Nat) : MRel κ (M.set n none) w ∧ Fr κ M w κ (M.set n none) w := by
  have hs : ∀ m r, (M.set n none) m = some r → M m = some r := fun m r hm => by
    by_cases e : m = n
    · subst e; rw [Mem.set_same] at hm; cases hm
    · rw [Mem.set_ne _ _ e] at hm; exact hm
  exact ⟨h.sub hs, (fun _ _ h => .inl h), rfl, rfl, rfl, Nat.le_refl _, fun _ _ _ => rfl, fun b _ ho => owned.sub hs ho⟩

theorem MRel.rehouse {κ : Kap} {M : Mem} {w : World} (h : MRel κ M w) {n b next : Nat} {c c' : List AV} {tip : Bool} (hn : M n = some (.cells c true tip)) (hb : κ.loc n = some (some b)) (hx : κ.loc next = none) {zs' rest' : List Value} {e o : TypeId} {old : Array Value} {fr : Nat × Nat}
    (hold : w.heap[b]? = some (.cells old o fr)) (hc : CRel κ c' zs') (hst : κ.st b = none) (hsz : κ.sz b = some (zs' ++ rest').length) :
    MRel (κ.at next (some b)) ((M.set n none).set next (some (.cells c' true true))) (World.putBlk w b (.cells (zs' ++ rest').toArray e (0, 0))) ∧
      Fr κ M w (κ.at next (some b)) ((M.set n none).set next (some (.cells c' true true))) (World.putBlk w b (.cells (zs' ++ rest').toArray e (0, 0))) := by
  have hrow : RowRel κ (World.putBlk w b (.cells (zs' ++ rest').toArray e (0, 0))) n (.cells c' true true) :=
    .inr ⟨b, zs', rest', e, (0, 0), hb, putBlk_same hold, hc, (fun h => by cases h), fun _ => ⟨rfl, hst⟩, (fun h => by cases h), hsz⟩
  obtain ⟨k1, k2⟩ := h.put hn rfl hb hrow
  obtain ⟨k3, k4⟩ := k1.rename (Mem.set_same _ _ _) hb hx
  have e1 : ((M.set n (some (.cells c' true true))).set n none) = M.set n none := funext fun x => by
    by_cases e : x = n
    · subst e; rw [Mem.set_same, Mem.set_same]
    · rw [Mem.set_ne _ _ e, Mem.set_ne _ _ e, Mem.set_ne _ _ e]
  rw [e1] at k3 k4
  exact ⟨k3, k2.trans k4⟩
theorem run_append_here {t tx ty e : TypeId} {i : TypeInfo} (ht : P.underlying t = some (.slice e)) (hi : P.info? e = some i) {w : World} {b len cap' cnt : Nat} {y : Value} {news : List Value} (hs : Src P i.size tx y cnt news w) (hroom : len + cnt ≤ cap')
    {c : Array Value} {e' : TypeId} (hb : w.heap[b]? = some (.cells c e' (0, 0))) (hfit : len * i.size + news.length ≤ c.size) (hone : ∀ z ∈ news, oneV z = true) :
    (Builtin.append_ #[t, tx] ty #[.slice (some ⟨b, 0, none⟩) len cap', y]).run P w = .ok (.slice (some ⟨b, 0, none⟩) (len + cnt) cap') (World.putBlk w b (.cells (splice c.toList (len * i.size) news).toArray e' (0, 0))) := by
  have hst := run_storeCells (P := P) (len * i.size) news 0 c w hb (by omega) hone
  simp only [Nat.add_zero] at hst
  rcases hs.kind with ⟨e', hk⟩ | hk <;> simp [Builtin.append_, run_underlying ht, run_underlying hk, sizeOf, typeInfo, hi, hs.len, hroom, hs.cells, Addr.add_lit, hst]

/-- Appending to a list that may be nil, without elements. -/
theorem append_nil_ok {t tx ty e : TypeId} {i : TypeInfo} {z : Value} (ht : P.underlying t = some (.slice e)) (hi : P.info? e = some i) (hz : i.zero = some z) (hb1 : 1 ≤ i.bytes) (hzs : z.cells.size = i.size) {w : World}
    {y : Value} {cnt : Nat} {news : List Value} (hs : Src P i.size tx y cnt news w) (hlim : cnt * i.bytes ≤ LIM)
    {κ : Kap} {M : Mem} (hR : MRel κ M w) {next : Nat} (hn : κ.loc next = none) {c : List AV} (hcw : cw c = cnt * i.size) (hc : CRel κ c news) :
    ∃ κ' v' w', (Builtin.append_ #[t, tx] ty #[.slice none 0 0, y]).run P w = .ok v' w' ∧ κ.le κ' ∧ (∀ n, n ≠ next → κ'.loc n = κ.loc n) ∧ VRel κ' (.slc next [] 0 0 i.size cnt cnt) v' ∧
      MRel κ' (M.set next (some (.cells c true true))) w' ∧ Fr κ M w κ' (M.set next (some (.cells c true true))) w' := by
  by_cases h0 : cnt = 0
  · subst h0
    have hnil : news = [] := by have := hs.newsLen; simpa using this
    subst hnil
    obtain ⟨h1, h2⟩ := hR.new0 hn (c := c) (hc.mono (Kap.at_le hn)) true true
    exact ⟨_, _, _, run_append_nothing w t tx ty e i ht hi none 0 0 (Nat.le_refl _) y hs, Kap.at_le hn, fun n hne => Kap.at_ne hne, .slc0 _ _ _ _ _ Kap.at_same .nil, h1, h2⟩
  · have := grow_ok (ty := ty) ht hi hz hb1 hzs (base := none) (len := 0) (cap' := 0) (olds := []) (run_firstCells_none w.drew i.size 0 0 0) hs (by omega) (by simpa using hlim) hR hn (c := c) (by simpa using hcw) (by simpa using hc)
    simpa using this

/-- Appending to a row of one's own. -/
theorem append_own_ok {t tx ty e : TypeId} {i : TypeInfo} {z : Value} (ht : P.underlying t = some (.slice e)) (hi : P.info? e = some i) (hz : i.zero = some z) (hb1 : 1 ≤ i.bytes) (hzs : z.cells.size = i.size) {w : World}
    {y : Value} {cnt : Nat} {news : List Value} (hs : Src P i.size tx y cnt news w) {len cap : Nat} (hlim : (len + cnt) * i.bytes ≤ LIM)
    {κ : Kap} {M : Mem} (hR : MRel κ M w) {n next : Nat} {cR cP c : List AV} {tip : Bool} (hM : M n = some (.cells cR true tip)) (hn : κ.loc next = none)
    {u : Value} (hv : VRel κ (.slc n [] 0 0 i.size len cap) u) (hP : ∀ (κ' : Kap) (zs : List Value), CRel κ' cR zs → len * i.size ≤ zs.length ∧ CRel κ' cP (zs.take (len * i.size))) (hcw : cw c = (len + cnt) * i.size)
    (hc : ∀ (zs : List Value) (κ' : Kap), κ.le κ' → CRel κ' cP zs → CRel κ' c (zs ++ news)) :
    ∃ κ' v' w', (Builtin.append_ #[t, tx] ty #[u, y]).run P w = .ok v' w' ∧ κ.le κ' ∧ (∀ n, n ≠ next → κ'.loc n = κ.loc n) ∧ VRel κ' (.slc next [] 0 0 i.size (len + cnt) (len + cnt)) v' ∧
      MRel κ' ((M.set n none).set next (some (.cells c true true))) w' ∧ Fr κ M w κ' ((M.set n none).set next (some (.cells c true true))) w' := by
  cases hv with
  | slc0 _ _ _ _ _ h1 _ =>
    obtain ⟨k1, k2⟩ := hR.drop n
    have hr0 : CRel κ cR [] := by
      rcases hR.row n _ hM with ⟨_, g⟩ | ⟨b', zs, rest, e', fr, g1, _⟩
      · exact g
      · rw [h1] at g1; cases g1
    have hc0 := hc [] κ (Kap.le_refl κ) (by simpa using (hP κ [] hr0).2)
    obtain ⟨κ', v', w', a1, a2, a3, a4, a5, a6⟩ := append_nil_ok (ty := ty) ht hi hz hb1 hzs hs (by simpa using hlim) k1 hn (c := c) (by simpa using hcw) (by simpa using hc0)
    exact ⟨κ', v', w', a1, a2, a3, by simpa using a4, by simpa using a5, k2.trans (by simpa using a6)⟩
  | slc _ _ _ _ _ _ _ b cap' a h1 h2 h3 h4 _ =>
    rcases hR.row n _ hM with ⟨g1, _⟩ | ⟨b', zs, rest, e', fr, g1, g2, g3, g4, g5, g6, g7⟩
    · rw [h1] at g1; cases g1
    · rw [h1] at g1; cases g1
      obtain ⟨rfl, hst⟩ := g5 rfl
      obtain ⟨hle, hz1⟩ := hP κ zs g3
      have hsz : κ.sz b = some (zs ++ rest).length := g7
      by_cases hroom : len + cnt ≤ cap'
      · have hc0 := hc _ κ (Kap.le_refl κ) hz1
        have hres : ∀ κ', κ.le κ' → κ'.loc next = some (some b) → VRel κ' (.slc next [] 0 0 i.size (len + cnt) (len + cnt)) (.slice (some a) (len + cnt) cap') := fun κ' hle' hl =>
          .slc _ _ _ _ _ _ _ b cap' a hl (h2.imp id fun ⟨e1, s, e2, e3⟩ => ⟨e1, s, hle'.sz _ _ e2, e3⟩) hroom hroom .nil
        by_cases h0 : cnt = 0
        · subst h0
          have hnil : news = [] := by have := hs.newsLen; simpa using this
          subst hnil
          have e1 : (zs.take (len * i.size) ++ []) ++ (zs.drop (len * i.size) ++ rest) = zs ++ rest := by rw [List.append_nil, ← List.append_assoc, List.take_append_drop]
          obtain ⟨k1, k2⟩ := hR.rehouse (next := next) hM h1 hn (rest' := zs.drop (len * i.size) ++ rest) (e := e') g2 hc0 hst (by rw [e1]; exact hsz)
          rw [e1, putBlk_id g2] at k1 k2
          exact ⟨_, _, _, run_append_nothing w t tx ty e i ht hi (some a) len cap' (by omega) y hs, Kap.at_le hn, fun n hne => Kap.at_ne hne, hres _ (Kap.at_le hn) Kap.at_same, k1, k2⟩
        · obtain ⟨ha, s, hs2, hs3⟩ := h2.resolve_left (by omega)
          have ha' : a = ⟨b, 0, none⟩ := by rw [ha]; simp [plen]
          subst ha'
          rw [hsz] at hs2
          have hs2 := Option.some.inj hs2
          have hnl := hs.newsLen
          have hcap : (len + cnt) * i.size ≤ cap' * i.size := Nat.mul_le_mul_right _ hroom
          rw [Nat.add_mul] at hcap
          simp only [plen, Nat.zero_mul, Nat.zero_add] at hs3
          have hfit : len * i.size + news.length ≤ (zs ++ rest).length := by rw [hs2]; omega
          have hone : ∀ z ∈ news, oneV z = true := fun z hz => by
            have := hs.one z hz
            cases z <;> first | rfl | (simp [Value.oneCell'] at this; done)
          have hrun := run_append_here (P := P) (ty := ty) ht hi hs hroom g2 (by simpa using hfit) hone
          have e1 : splice (zs ++ rest).toArray.toList (len * i.size) news = (zs.take (len * i.size) ++ news) ++ (zs ++ rest).drop (len * i.size + news.length) := by
            unfold splice
            simp only [List.take_append_of_le_length (show len * i.size ≤ zs.length by omega), List.append_assoc]
          rw [e1] at hrun
          obtain ⟨k1, k2⟩ := hR.rehouse (next := next) hM h1 hn (rest' := (zs ++ rest).drop (len * i.size + news.length)) (e := e') g2 hc0 hst (by
            rw [← e1, splice_length _ _ _ (by simpa using hfit)]; simpa using hsz)
          exact ⟨_, _, _, hrun, Kap.at_le hn, fun n hne => Kap.at_ne hne, hres _ (Kap.at_le hn) Kap.at_same, k1, k2⟩
      · obtain ⟨k1, k2⟩ := hR.drop n
        have hold : (Builtin.firstCells i.size len (.slice (some a) len cap')).run P w.drew = .ok (zs.take (len * i.size)).toArray w.drew := by
          by_cases hl : len = 0
          · subst hl
            simp only [Nat.zero_mul, List.take_zero]
            simp [Builtin.firstCells, loadCells, loadCellsFrom, pure]
          · obtain ⟨ha, s, hs2, hs3⟩ := h2.resolve_left (by omega)
            have ha' : a = ⟨b, 0, none⟩ := by rw [ha]; simp [plen]
            subst ha'
            have := run_loadCells (P := P) (w := w.drew) g2 0 (len * i.size) (by simp; omega)
            simp only [Builtin.firstCells]
            rw [this]
            simp [List.take_append_of_le_length (show len * i.size ≤ zs.length by omega)]
        have hc0 := hc _ κ (Kap.le_refl κ) hz1
        obtain ⟨κ', v', w', a1, a2, a3, a4, a5, a6⟩ := grow_ok (ty := ty) ht hi hz hb1 hzs hold hs (by omega) hlim k1 hn (c := c) hcw hc0
        exact ⟨κ', v', w', a1, a2, a3, a4, a5, k2.trans a6⟩

theorem appendE_ok (hZ : ZerosOk P) {R : Type} {o : Oper} {c : Call} {x y : Operand} (ho : o.op = .call c) (hc : c.callee = .builtin .append) (hx0 : c.args.toList = [x, y]) {t tx : TypeId} (ht0 : c.argTypes.toList = [t, tx]) {E : Env} {st : AS} {k : Ent → Option R} {r : R} (h : appendE P t tx x y E st k = some r) :
    ∃ e, k e = some r ∧ OpOk P o E st.next (find st.mem) e := by
  have e1 : c.args = #[x, y] := by apply Array.ext'; simpa using hx0
  have hmx : x ∈ o.op.operands := by rw [ho]; simp [Op.operands, Call.operands, hc, e1]
  have hmy : y ∈ o.op.operands := by rw [ho]; simp [Op.operands, Call.operands, hc, e1]
  unfold appendE at h
  split at h
  · rename_i e ht
    split at h
    · rename_i i hi
      split at h
      · rename_i z hz
        split at h
        · rename_i zc hzc
          obtain ⟨hb, h⟩ := cond_some h
          simp only [Bool.and_eq_true] at hb
          have hb1 := Nat.le_of_ble_eq_true hb.1
          have hzw := Nat.eq_of_beq_eq_true hb.2.2
          have hzs : z.cells.size = i.size := by
            have := ((zero_rel hZ hzc (zero_of_info hi hz)).2 ⟨fun _ => none, fun _ => none, fun _ => undef, fun _ => none⟩).length
            rw [hzw] at this; simpa using this
          split at h
          · rename_i yv hy
            obtain ⟨hk, h⟩ := cond_some h
            obtain ⟨W, f, us, cnt, rd, h1, hsrc⟩ := srcK_ok h
            obtain ⟨hW, h2⟩ := cond_some h1
            have hW : W = i.size ∨ cnt = 0 := by
              cases hbw : Nat.beq W i.size
              · rw [hbw] at hW; exact .inr (Nat.eq_of_beq_eq_true (by simpa using hW))
              · exact .inl (Nat.eq_of_beq_eq_true hbw)
            split at h2
            · rename_i hx
              obtain ⟨hlim, h3⟩ := cond_some h2
              have hlim := Nat.le_of_ble_eq_true hlim
              refine ⟨_, h3, fun κ a w M K Q hA hR hrd hfr hK => ?_⟩
              obtain ⟨news, hcn, hsr⟩ := (hsrc κ w M _ hR hrd (hA y hmy _ hy)).src hk (hA y hmy _ hy) hW
              have hu : a.eval x = .slice none 0 0 := by
                have := hA x hmx _ hx
                generalize a.eval x = u at this
                cases this; rfl
              obtain ⟨κ', v', w', a1, a2, a3, a4, a5, a6⟩ := append_nil_ok (ty := o.type) ht hi hz hb1 hzs hsr hlim hR (hfr st.next (Nat.le_refl _) (Nat.lt_succ_self _)) (by simp [cw, width]) hcn
              refine wp_value (callRun2 ho hc hx0 ht0 fun consts => ?_) (hK κ' v' w' a2 (fun n hn => a3 n (name_ne hn)) a4 a5 a6)
              rw [hu]; exact run_value a1
            · rename_i n W0 len cap hx
              split at h2
              · rename_i w' N f0 us0 tip hf
                obtain ⟨hw, h3⟩ := cond_some h2
                obtain ⟨hN, h4⟩ := cond_some h3
                obtain ⟨hlim, h5⟩ := cond_some h4
                have hlim := Nat.le_of_ble_eq_true hlim
                have hN := Nat.le_of_ble_eq_true hN
                simp only [Bool.and_eq_true] at hw
                have q1 := Nat.eq_of_beq_eq_true hw.1
                have q2 := Nat.eq_of_beq_eq_true hw.2
                have gen : ∀ (N' : Nat) (f' : Nat → List AV) (us' : List (Nat × List AV)), N' = len + cnt → (∀ (κ : Kap) (zs news : List Value), CRel κ [.arr i.size len f0 us0] zs → CRel κ [.arr i.size cnt f us] news → CRel κ [.arr i.size N' f' us'] (zs ++ news)) →
                    OpOk P o E st.next (find st.mem) ⟨.slc st.next [] 0 0 i.size N' N', [(n, none), (st.next, some (.cells [.arr i.size N' f' us'] true true))], 1, n :: rd⟩ := by
                  intro N' f' us' hN' hcc κ a w M K Q hA hR hrd hfr hK
                  subst hN'
                  obtain ⟨news, hcn, hsr⟩ := (hsrc κ w M _ hR (fun n' hn' => hrd n' (List.mem_cons_of_mem _ hn')) (hA y hmy _ hy)).src hk (hA y hmy _ hy) hW
                  have hM : M n = some (.cells [.arr i.size N f0 us0] true tip) := by rw [hrd n (List.mem_cons_self ..), hf, q2]
                  have hvx := hA x hmx _ hx
                  rw [q1] at hvx
                  obtain ⟨κ', v', w', a1, a2, a3, a4, a5, a6⟩ := append_own_ok (ty := o.type) ht hi hz hb1 hzs hsr hlim hR hM (hfr st.next (Nat.le_refl _) (Nat.lt_succ_self _)) hvx (cP := [.arr i.size len f0 us0]) (c := [.arr i.size (len + cnt) f' us'])
                    (fun κ2 zs hz => ⟨by rw [(arr_parts.1 hz).1]; exact Nat.mul_le_mul_right _ hN, arr_take hz hN⟩) (by simp [cw, width]) (fun zs κ2 hle2 hz2 => hcc κ2 zs news hz2 (hcn.mono hle2))
                  exact wp_value (callRun2 ho hc hx0 ht0 fun consts => run_value a1) (hK κ' v' w' a2 (fun n hn => a3 n (name_ne hn)) a4 a5 a6)
                split at h5
                · rename_i j cc
                  cases hj : (Nat.beq j 0 && Nat.beq cnt 1) <;> rw [hj] at h5
                  · exact ⟨_, h5, gen _ _ _ rfl fun κ zs news a b => arr_cat a b⟩
                  · simp only [Bool.and_eq_true] at hj
                    have hj0 := Nat.eq_of_beq_eq_true hj.1
                    have hj1 := Nat.eq_of_beq_eq_true hj.2
                    subst hj0; subst hj1
                    refine ⟨_, h5, gen _ _ _ rfl fun κ zs news a b => ?_⟩
                    obtain ⟨b1, bo, b2, b3⟩ := arr_parts.1 b
                    have c2 := b2 0 (by omega)
                    have c3 := b3 0 (by omega)
                    simp only [elt, Nat.beq_refl, cond_true] at c2 c3
                    rw [Nat.zero_mul, List.drop_zero, List.take_of_length_le (by omega)] at c3
                    exact arr_snoc a c3 c2 bo
                · exact ⟨_, h5, gen _ _ _ rfl fun κ zs news a b => arr_cat a b⟩
              · cases h2
            · cases h2
          · cases h
        · cases h
      · cases h
    · cases h
  · cases h
end
end Go.Sv
