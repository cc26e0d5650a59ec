/- A second evaluator for the model's code: appending to lists whose elements may bear names (their cells lie flat in a row). -/
import Derived.Test.YtojoepocppnccaaGreatSvB
namespace Go.Sv
noncomputable section
open Go.RowKit
variable {P : Program}

/-- A list's elements, cell by cell; and the rows looked at. -/
def srcFK {R : Type} (m : List (Nat × Row)) (s : Nat) (x : AV) (k : List AV → Nat → List Nat → Option R) : Option R :=
  match x with
  | .raw (.slice none 0 0) => k [] 0 []
  | .raw (.slice (some _) 0 _) => k [] 0 []
  | .slc n [] o i w len _ => match find m n with
    | some (.cells c _ _) => bif Nat.beq w s then (match dropW c (o + i * w) with
      | some c1 => match takeW c1 (len * w) with
        | some c2 => bif flatC c2 then k c2 len [n] else none
        | none => none
      | none => none) else none
    | _ => none
  | _ => none
def SrcFOk (κ : Kap) (w : World) (y : Value) (s : Nat) (c : List AV) (len : Nat) : Prop :=
  cw c = len * s ∧ ∃ news, CRel κ c news ∧ (∀ z ∈ news, oneV z = true) ∧ ((∃ a c0 b off, y = .slice (some a) len c0 ∧ (len = 0 ∨ (a = ⟨b, off, none⟩ ∧ ∃ cs e fr, w.heap[b]? = some (.cells cs e fr) ∧ off + len * s ≤ cs.size ∧ news = (cs.toList.drop off).take (len * s)))) ∨
    (∃ c0, y = .slice none 0 c0 ∧ len = 0))
theorem srcFK_ok {R : Type} {m : List (Nat × Row)} {s : Nat} {x : AV} {k : List AV → Nat → List Nat → Option R} {r : R} (h : srcFK m s x k = some r) :
    ∃ c len rd, k c len rd = some r ∧ ∀ (κ : Kap) (w : World) (M : Mem) (y : Value), MRel κ M w → (∀ n ∈ rd, M n = find m n) → VRel κ x y → SrcFOk κ w y s c len := by
  unfold srcFK at h
  split at h
  · refine ⟨_, _, _, h, fun κ w M y hR _ hv => ?_⟩
    cases hv with
    | raw _ _ => exact ⟨by simp [cw], [], .nil, by simp, .inr ⟨0, rfl, rfl⟩⟩
  · refine ⟨_, _, _, h, fun κ w M y hR _ hv => ?_⟩
    cases hv with
    | raw _ _ => exact ⟨by simp [cw], [], .nil, by simp, .inl ⟨_, _, 0, 0, rfl, .inl rfl⟩⟩
  · rename_i n o i W len cap
    split at h
    · rename_i c own tip hf
      obtain ⟨hw, g⟩ := cond_some h
      clear h
      have hw := Nat.eq_of_beq_eq_true hw
      subst hw
      split at g
      · rename_i c1 hd
        split at g
        · rename_i c2 ht
          obtain ⟨hfl, g'⟩ := cond_some g
          refine ⟨_, _, _, g', fun κ w M y hR hM hv => ?_⟩
          have hrow : M n = some (.cells c own tip) := by rw [hM n (List.mem_singleton.2 rfl)]; exact hf
          obtain ⟨cr, hcr, hcw⟩ := takeW_spec _ _ _ ht
          cases hv with
          | slc _ _ _ _ _ _ _ b cap' a h1 h2 h3 h4 hn =>
            rcases hR.row n _ hrow with ⟨g1, _⟩ | ⟨b', zs, rst, e, fr, g1, g2, g3, g4, g5, g6, g7⟩
            · rw [h1] at g1; cases g1
            · rw [h1] at g1; cases g1
              obtain ⟨a1, a2⟩ := g3.dropW hd
              obtain ⟨b1, b2⟩ := a1.takeW ht
              simp only [List.length_drop] at b2
              refine ⟨hcw, _, b1, flatC_one hfl b1, .inl ⟨a, cap', b, o + i * W, rfl, ?_⟩⟩
              by_cases hl : len = 0
              · exact .inl hl
              · obtain ⟨ha, s, hs1, hs2⟩ := h2.resolve_left (by omega)
                refine .inr ⟨by rw [ha]; simp [plen], _, e, fr, g2, by simp; omega, ?_⟩
                simp only [List.drop_append_of_le_length (show o + i * W ≤ zs.length by omega)]
                rw [List.take_append_of_le_length (by simp; omega)]
          | slc0 _ _ _ _ _ h1 hn =>
            have e0 : c2 = [] := by
              have h0 : cw c2 = 0 := by rw [hcw]; simp
              have ht' : Sv.takeW c1 0 = some c2 := by simpa using ht
              cases c1 <;> (simp only [Sv.takeW, Option.some.injEq] at ht'; exact ht'.symm)
            subst e0
            exact ⟨hcw, [], .nil, by simp, .inr ⟨0, rfl, rfl⟩⟩
        · cases g
      · cases g
    · cases h
  · cases h
theorem SrcFOk.src {κ : Kap} {w : World} {y : Value} {s : Nat} {c : List AV} {cnt : Nat} (h : SrcFOk κ w y s c cnt) {tx e' : TypeId} (hu : P.underlying tx = some (.slice e')) :
    ∃ news, cw c = cnt * s ∧ CRel κ c news ∧ Src P s tx y cnt news w := by
  obtain ⟨hcw, news, hc, hone, h⟩ := h
  have hl := hc.length
  rw [hcw] at hl
  refine ⟨news, hcw, hc, ?_⟩
  rcases h with ⟨a, c0, b, off, rfl, h⟩ | ⟨c0, rfl, rfl⟩
  · by_cases h0 : cnt = 0
    · subst h0
      have : news = [] := by simpa using hl
      subst this
      exact Src.ofSlice w hu a 0 c0 [] (by simp) (fun j u h => by simp at h) (by simp)
    · obtain ⟨rfl, cs, e, fr, hb, hle, hn⟩ := h.resolve_left h0
      refine Src.ofSlice w hu _ cnt c0 news hl (fun j u hj => ?_) (fun u hu => oneCell_of (hone u hu))
      rw [addr_add, cell_blk hb]
      rw [hn, List.getElem?_take] at hj
      split at hj
      · rw [List.getElem?_drop] at hj; simpa using hj
      · cases hj
  · have : news = [] := by simpa using hl
    subst this
    exact Src.ofNil w hu c0
/-- Is it a list whose elements may bear names? -/
def flatElem (P : Program) (t : TypeId) : Bool :=
  match P.underlying t with
  | some (.slice e) => match zeroT P e with
    | some c => rawIn c
    | none => false
  | _ => false
section
variable {R : Type} (P)
def appendFE (t tx : TypeId) (x y : Operand) (E : Env) (st : AS) (k : Ent → Option R) : Option R :=
  match P.underlying t with
  | some (.slice e) => match P.underlying tx with
   | some (.slice _) => match P.info? e with
    | some i => match i.zero with
      | some _ => match zeroT P e with
       | some zc => bif Nat.ble 1 i.bytes && (Nat.ble 1 i.size && Nat.beq (cw zc) i.size) then
        match aeval E y with
        | some yv => srcFK st.mem i.size yv fun cs cnt rd =>
            match aeval E x with
            | some (.raw (.slice none 0 0)) => bif Nat.ble (cnt * i.bytes) LIM then
                k ⟨.slc st.next [] 0 0 i.size cnt cnt, [(st.next, some (.cells cs true true))], 1, rd⟩ else none
            | some (.slc n [] 0 0 w len _) => match find st.mem n with
              | some (.cells cR true _) => bif Nat.beq w i.size then bif Nat.ble ((len + cnt) * i.bytes) LIM then
                  match takeW cR (len * i.size) with
                  | some cP => k ⟨.slc st.next [] 0 0 i.size (len + cnt) (len + cnt), [(n, none), (st.next, some (.cells (cP ++ cs) true true))], 1, n :: rd⟩
                  | none => none
                else none else none
              | _ => none
            | _ => none
        | none => none
        else none
       | none => none
      | none => none
    | none => none
   | _ => none
  | _ => none
end
theorem appendFE_ok (hZ : ZerosOk P) {R : Type} {o : Oper} {c : Call} {x y : Operand} (ho : o.op = .call c) (hc : c.callee = .builtin .append) (hx0 : c.args.toList = [x, y]) {t tx : TypeId} (ht0 : c.argTypes.toList = [t, tx]) {E : Env} {st : AS} {k : Ent → Option R} {r : R} (h : appendFE P t tx x y E st k = some r) :
    ∃ e, k e = some r ∧ OpOk P o E st.next (find st.mem) e := by
  have e1 : c.args = #[x, y] := by apply Array.ext'; simpa using hx0
  have hmx : x ∈ o.op.operands := by rw [ho]; simp [Op.operands, Call.operands, hc, e1]
  have hmy : y ∈ o.op.operands := by rw [ho]; simp [Op.operands, Call.operands, hc, e1]
  unfold appendFE at h
  split at h
  · rename_i e ht
    split at h
    · rename_i etx htx
      split at h
      · rename_i i hi
        split at h
        · rename_i z hz
          split at h
          · rename_i zc hzc
            obtain ⟨hb, h⟩ := cond_some h
            simp only [Bool.and_eq_true] at hb
            have hb1 := Nat.le_of_ble_eq_true hb.1
            have hzw := Nat.eq_of_beq_eq_true hb.2.2
            have hzs : z.cells.size = i.size := by
              have := ((zero_rel hZ hzc (zero_of_info hi hz)).2 ⟨fun _ => none, fun _ => none, fun _ => undef, fun _ => none⟩).length
              rw [hzw] at this; simpa using this
            split at h
            · rename_i yv hy
              obtain ⟨cs, cnt, rd, h2, hsrc⟩ := srcFK_ok h
              split at h2
              · rename_i hx
                obtain ⟨hlim, h3⟩ := cond_some h2
                have hlim := Nat.le_of_ble_eq_true hlim
                refine ⟨_, h3, fun κ a w M K Q hA hR hrd hfr hK => ?_⟩
                obtain ⟨news, hcw, hcn, hsr⟩ := (hsrc κ w M _ hR hrd (hA y hmy _ hy)).src (P := P) htx
                have hu : a.eval x = .slice none 0 0 := by
                  have := hA x hmx _ hx
                  generalize a.eval x = u at this
                  cases this; rfl
                obtain ⟨κ', v', w', a1, a2, a3, a4, a5, a6⟩ := append_nil_ok (ty := o.type) ht hi hz hb1 hzs hsr hlim hR (hfr st.next (Nat.le_refl _) (Nat.lt_succ_self _)) hcw hcn
                refine wp_value (callRun2 ho hc hx0 ht0 fun consts => ?_) (hK κ' v' w' a2 (fun n hn => a3 n (name_ne hn)) a4 a5 a6)
                rw [hu]; exact run_value a1
              · rename_i n W0 len cap hx
                split at h2
                · rename_i cR tip hf
                  obtain ⟨hw, h3⟩ := cond_some h2
                  obtain ⟨hlim, h5⟩ := cond_some h3
                  have hlim := Nat.le_of_ble_eq_true hlim
                  have q1 := Nat.eq_of_beq_eq_true hw
                  split at h5
                  · rename_i cP hP
                    refine ⟨_, h5, fun κ a w M K Q hA hR hrd hfr hK => ?_⟩
                    obtain ⟨news, hcw, hcn, hsr⟩ := (hsrc κ w M _ hR (fun n' hn' => hrd n' (List.mem_cons_of_mem _ hn')) (hA y hmy _ hy)).src (P := P) htx
                    have hM : M n = some (.cells cR true tip) := by rw [hrd n (List.mem_cons_self ..), hf]
                    have hvx := hA x hmx _ hx
                    rw [q1] at hvx
                    obtain ⟨_, hcP, hcwP⟩ := takeW_spec _ _ _ hP
                    obtain ⟨κ', v', w', a1, a2, a3, a4, a5, a6⟩ := append_own_ok (ty := o.type) ht hi hz hb1 hzs hsr hlim hR hM (hfr st.next (Nat.le_refl _) (Nat.lt_succ_self _)) hvx (cP := cP) (c := cP ++ cs)
                      (fun κ2 zs hz => let q := hz.takeW hP; ⟨q.2, q.1⟩) (by rw [cw_append, hcwP, hcw, Nat.add_mul]) (fun zs κ2 hle2 hz2 => hz2.append (hcn.mono hle2))
                    exact wp_value (callRun2 ho hc hx0 ht0 fun consts => run_value a1) (hK κ' v' w' a2 (fun n hn => a3 n (name_ne hn)) a4 a5 a6)
                  · cases h5
                · cases h2
              · cases h2
            · cases h
          · cases h
        · cases h
      · cases h
    · cases h
  · cases h
end
end Go.Sv
