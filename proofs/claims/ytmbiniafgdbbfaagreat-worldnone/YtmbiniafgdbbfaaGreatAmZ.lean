/- The abstract machine's operations are the model's: append. -/
import Derived.Test.YtmbiniafgdbbfaaGreatAmY
set_option linter.unusedSimpArgs false
set_option linter.unusedVariables false
set_option linter.unusedVariables false
namespace Go.Am
section
variable {X : Cx} {w0 : World} {ι : Iota} {H : Hp} {w : World}

theorem lenA_ok {P : Program} {x x' : Value} {n : Nat} (hx : VR ι x x') (h : lenA x = some n) : (Builtin.lenOf x').run P w = .ok n w := by
  unfold lenA at h
  split at h
  · cases h; cases hx <;> simp [Builtin.lenOf]
  · cases h; cases hx; simp [Builtin.lenOf]
  · cases h

/-- What is appended, in the two ways in which the model asks for it. -/
def AppSrc (P : Program) (w : World) (d : TypeDesc) (size n : Nat) (x' : Value) (A : Array Value) : Prop :=
  ((∃ e, d = .slice e) ∨ d = .string) ∧ (Builtin.lenOf x').run P w = .ok n w ∧ (Builtin.firstCells size n x').run P w = .ok A w

theorem zeroCells_eq (z : Value) (n : Nat) : Builtin.zeroCells z.cells n = (repeatL z.cells.toList n).toArray := by
  unfold Builtin.zeroCells; exact zeros_eq z.cells n

/-- The model's append, where the new length fits. -/
theorem append_fits {P : Program} {ats : Array TypeId} {rt st xt e : TypeId} {base : Option Addr} {len cap n : Nat} {x : Value} {d : TypeDesc} {i : TypeInfo} {z : Value} {A : Array Value} {w' : World}
    (hu : P.underlying st = some (.slice e)) (hx : P.underlying xt = some d) (hi : P.info? e = some i) (hz : i.zero = some z) (hzs : z.cells.size = i.size) (h0 : ats[0]? = some st) (h1 : ats[1]? = some xt)
    (hsrc : AppSrc P w d i.size n x A ∨ ((∃ k, d = .int k) ∧ (∃ k, x = .int k (n : Int)) ∧ n ≤ 1099511627776 ∧ n * i.bytes ≤ 1099511627776 ∧ A = (repeatL z.cells.toList n).toArray)) (hcap : len + n ≤ cap)
    (hst : ∀ a, base = some a → (storeCells (a.add (len * i.size)) A.toList).run P w = .ok () w') (hbn : base = none → w' = w) :
    (Builtin.append_ ats rt #[.slice base len cap, x]).run P w = .ok (.slice base (len + n) cap) w' := by
  have e0 : (#[Value.slice base len cap, x] : Array Value)[0]? = some (.slice base len cap) := rfl
  have e1 : (#[Value.slice base len cap, x] : Array Value)[1]? = some x := rfl
  have fin : (match base with
        | some a => (do storeCells (a.add (len * i.size)) A.toList; pure (Value.slice base (len + n) cap) : Sem Value)
        | x => pure (Value.slice base (len + n) cap)).run P w = .ok (.slice base (len + n) cap) w' := by
    cases base with
    | none => rw [hbn rfl]; simp
    | some a => simp [hst a rfl]
  rcases hsrc with ⟨hd, hl, hA⟩ | ⟨⟨k, rfl⟩, ⟨k', rfl⟩, hn, hnb, rfl⟩
  · rcases hd with ⟨e', rfl⟩ | rfl
    all_goals
      simp only [Builtin.append_, h0, h1, e0, e1, Sem.run_bind, run_underlying' hu, run_underlying' hx, Result.andThen_ok, run_sizeOf hi, Sem.run_pure, Bool.false_eq_true, if_false, hl, hA, hcap, Bool.not_false, if_true]
      cases base with
      | none => rw [hbn rfl]; simp
      | some a => simp [hst a rfl]
  · have hw := wrap_nat hn
    have t1 : ¬ ((n : Int) < 0) := by omega
    have t2 : ¬ ((n : Int) * (i.bytes : Int) > 2 ^ 48) := by
      have p : (2 : Int) ^ 48 = 281474976710656 := by decide
      rw [← Int.natCast_mul, p]; omega
    by_cases hz0 : n * i.size = 0
    · have hA0 : (repeatL z.cells.toList n).toArray = #[] := by
        apply Array.eq_empty_of_size_eq_zero; simp [repeat_len, hzs, hz0]
      simp only [Builtin.append_, h0, h1, e0, e1, Sem.run_bind, run_underlying' hu, run_underlying' hx, Result.andThen_ok, run_sizeOf hi, Sem.run_pure, Bool.not_true, Bool.false_eq_true, if_false, if_true, asInt, asIntOf, hw, t1, t2, run_typeInfo hi, Int.toNat_natCast, hcap, hz0]
      rw [hA0] at hst
      cases base with
      | none => rw [hbn rfl]; simp
      | some a => simp [hst a rfl]
    · simp only [Builtin.append_, h0, h1, e0, e1, Sem.run_bind, run_underlying' hu, run_underlying' hx, Result.andThen_ok, run_sizeOf hi, Sem.run_pure, Bool.not_true, Bool.false_eq_true, if_false, if_true, asInt, asIntOf, hw, t1, t2, run_typeInfo hi, Int.toNat_natCast, hcap, hz0, run_zeroValue hi hz, zeroCells_eq]
      cases base with
      | none => rw [hbn rfl]; simp
      | some a => simp [hst a rfl]

/-- .. and where it does not: a new row, as long as the tape says. -/
theorem append_grows {P : Program} {ats : Array TypeId} {rt st xt e : TypeId} {base : Option Addr} {len cap n : Nat} {x : Value} {d : TypeDesc} {i : TypeInfo} {z : Value} {A O : Array Value}
    (hu : P.underlying st = some (.slice e)) (hx : P.underlying xt = some d) (hi : P.info? e = some i) (hz : i.zero = some z) (hzs : z.cells.size = i.size) (h0 : ats[0]? = some st) (h1 : ats[1]? = some xt)
    (hsrc : (((∃ e, d = .slice e) ∨ d = .string) ∧ (Builtin.lenOf x).run P w = .ok n w ∧ (Builtin.firstCells i.size n x).run P { w with drawn := w.drawn + 1 } = .ok A { w with drawn := w.drawn + 1 }) ∨ ((∃ k, d = .int k) ∧ (∃ k, x = .int k (n : Int)) ∧ n ≤ 1099511627776 ∧ n * i.bytes ≤ 1099511627776 ∧ A = (repeatL z.cells.toList n).toArray)) (hcap : ¬ len + n ≤ cap)
    (hold : (Builtin.firstCells i.size len (.slice base len cap)).run P { w with drawn := w.drawn + 1 } = .ok O { w with drawn := w.drawn + 1 }) (hsz : (len + n) * (i.bytes + 1) ≤ 1099511627776) :
    ∃ newCap, len + n ≤ newCap ∧ (Builtin.append_ ats rt #[.slice base len cap, x]).run P w =
      .ok (.slice (some ⟨w.heap.size, 0, none⟩) (len + n) newCap) (pushW { w with drawn := w.drawn + 1 } (.cells (O ++ A ++ (repeatL z.cells.toList (newCap - (len + n))).toArray) e (0, 0))) := by
  have e0 : (#[Value.slice base len cap, x] : Array Value)[0]? = some (.slice base len cap) := rfl
  have e1 : (#[Value.slice base len cap, x] : Array Value)[1]? = some x := rfl
  have hmax : ¬ (((len + n : Nat) : Int) > IntKind.i64.max) := by
    have h3 : IntKind.i64.max = 9223372036854775807 := by decide
    have : (len + n) * 1 ≤ (len + n) * (i.bytes + 1) := Nat.mul_le_mul_left _ (by omega)
    rw [h3]; omega
  have hbig : ¬ (Builtin.nextslicecap (len + n) cap * i.bytes > 2 ^ 48) := by
    have h2 := next_le (len + n) cap (by omega)
    have h3 : Builtin.nextslicecap (len + n) cap * i.bytes ≤ (2 * (len + n) + 192) * i.bytes := Nat.mul_le_mul_right _ h2
    have h4 : (2 * (len + n) + 192) * i.bytes ≤ 194 * ((len + n) * (i.bytes + 1)) := by
      have hp : 1 ≤ len + n := by omega
      have a1 : (2 * (len + n) + 192) ≤ 194 * (len + n) := by omega
      have a2 : (2 * (len + n) + 192) * i.bytes ≤ (194 * (len + n)) * (i.bytes + 1) := Nat.mul_le_mul a1 (by omega)
      rw [Nat.mul_assoc] at a2; exact a2
    omega
  refine ⟨(Question.appendCap (len + n) cap e).cut (w.tape w.drawn (Question.appendCap (len + n) cap e)), ?_, ?_⟩
  rotate_left
  · rcases hsrc with ⟨hd, hl, hA'⟩ | ⟨⟨k, rfl⟩, ⟨k', rfl⟩, hn, hnb, rfl⟩
    · rcases hd with ⟨e', rfl⟩ | rfl
      all_goals
        simp only [Builtin.append_, h0, h1, e0, e1, Sem.run_bind, run_underlying' hu, run_underlying' hx, Result.andThen_ok, run_sizeOf hi, Sem.run_pure, Bool.false_eq_true, if_false, hl, hA', hcap, Bool.not_false, if_true, run_typeInfo hi, hmax, false_and, hbig, run_choose, Question.forced, run_askRoom, hold, run_zeroValue hi hz, zeroCells_eq, newRow_run]
        rfl
    · have hw := wrap_nat hn
      have t1 : ¬ ((n : Int) < 0) := by omega
      have t2 : ¬ ((n : Int) * (i.bytes : Int) > 2 ^ 48) := by
        have p : (2 : Int) ^ 48 = 281474976710656 := by decide
        rw [← Int.natCast_mul, p]; omega
      by_cases hz0 : n * i.size = 0
      · have hA0 : (repeatL z.cells.toList n).toArray = #[] := by
          apply Array.eq_empty_of_size_eq_zero; simp [repeat_len, hzs, hz0]
        rw [hA0]
        simp only [Builtin.append_, h0, h1, e0, e1, Sem.run_bind, run_underlying' hu, run_underlying' hx, Result.andThen_ok, run_sizeOf hi, Sem.run_pure, Bool.not_true, Bool.false_eq_true, if_false, if_true, asInt, asIntOf, hw, t1, t2, run_typeInfo hi, Int.toNat_natCast, hcap, hz0, hmax, false_and, hbig, run_choose, Question.forced, run_askRoom, hold, run_zeroValue hi hz, zeroCells_eq, newRow_run]
        rfl
      · simp only [Builtin.append_, h0, h1, e0, e1, Sem.run_bind, run_underlying' hu, run_underlying' hx, Result.andThen_ok, run_sizeOf hi, Sem.run_pure, Bool.not_true, Bool.false_eq_true, if_false, if_true, asInt, asIntOf, hw, t1, t2, run_typeInfo hi, Int.toNat_natCast, hcap, hz0, hmax, false_and, hbig, run_choose, Question.forced, run_askRoom, hold, run_zeroValue hi hz, zeroCells_eq, newRow_run]
        rfl
  · simp only [Question.cut]; omega

theorem newCells_ok (I : Inv w0 ι H w) (R : RoOk X w0) {e xt : TypeId} {i : TypeInfo} {x x' z : Value} {n : Nat} {new : List Value} (hx : VR ι x x') (hz : zeroOf X e = some z) (h : newCells X H e xt i x = some (n, new)) :
    ∃ d A, X.P.underlying xt = some d ∧ VRs ι new A.toList ∧ (AppSrc X.P w d i.size n x' A ∨ ((∃ k, d = .int k) ∧ (∃ k, x' = .int k (n : Int)) ∧ n ≤ 1099511627776 ∧ A = (repeatL z.cells.toList n).toArray)) := by
  have sl : ∀ d, (∃ e, d = TypeDesc.slice e) ∨ d = .string → X.P.underlying xt = some d → ((lenA x).bind fun n => (firstA X H i.size n x).map fun l => (n, l)) = some (n, new) → ∃ A, VRs ι new A.toList ∧ AppSrc X.P w d i.size n x' A := by
    intro d hd hu h
    simp only [Option.bind_eq_some_iff, Option.map_eq_some_iff, Prod.mk.injEq] at h
    obtain ⟨n', hn', l, hl, rfl, rfl⟩ := h
    obtain ⟨A, hA, hv⟩ := firstA_ok I R hx hl
    exact ⟨A, hv, hd, lenA_ok hx hn', hA⟩
  unfold newCells at h
  split at h
  · rename_i k hu
    rw [hz] at h
    simp only [Option.bind_some, Option.bind_eq_some_iff] at h
    obtain ⟨n', hn', h⟩ := h
    simp only [ble_dec, beq_dec, ← Bool.decide_and, bif_if] at h
    split at h
    · rename_i hc
      simp only [Option.some.injEq, Prod.mk.injEq] at h
      obtain ⟨rfl, rfl⟩ := h
      obtain ⟨k', rfl⟩ := natOf_vr hn' hx
      exact ⟨_, (repeatL z.cells.toList n').toArray, hu, by simpa using repeat_vr (zeroOf_vr hz) n', .inr ⟨⟨_, rfl⟩, ⟨_, rfl⟩, hc.1, rfl⟩⟩
    · cases h
  · rename_i e' hu
    obtain ⟨A, h1, h2⟩ := sl _ (.inl ⟨_, rfl⟩) hu h
    exact ⟨_, A, hu, h1, .inl h2⟩
  · rename_i hu
    obtain ⟨A, h1, h2⟩ := sl _ (.inr rfl) hu h
    exact ⟨_, A, hu, h1, .inl h2⟩
  · cases h

theorem within_ok (I : Inv w0 ι H w) {s len cap : Nat} {base : Option Addr} {b' : Option Addr} {l' c' : Nat} (hs : 0 < s ∨ True) (h : within H s base len cap = true) (hx : VR ι (.slice base len cap) (.slice b' l' c')) : l' = len ∧ len ≤ c' := by
  cases hx with
  | nilSl => exact ⟨rfl, Nat.le_of_ble_eq_true h⟩
  | slE => exact ⟨rfl, Nat.le_of_ble_eq_true h⟩
  | slF => exact ⟨rfl, Nat.le_of_ble_eq_true h⟩
  | slI hB hs0 =>
    refine ⟨rfl, ?_⟩
    simp only [within, beq_dec, decide_true, cond_true] at h
    split at h
    · rename_i cs hcs
      simp only [ble_dec, Bool.and_eq_true, decide_eq_true_eq] at h
      have hk := own_known I hcs hB
      exact div_le hs0 (by omega)
    · cases h
  | slPe => exact ⟨rfl, Nat.le_refl _⟩
  | slPl => exact ⟨rfl, Nat.zero_le _⟩

theorem slice_inv {base : Option Addr} {len cap : Nat} {v' : Value} (h : VR ι (.slice base len cap) v') : ∃ b' l' c', v' = .slice b' l' c' := by cases h <;> exact ⟨_, _, _, rfl⟩

theorem appendA_ok (I : Inv w0 ι H w) (R : RoOk X w0) {ats : Array TypeId} {rt : TypeId} {args : List Value} {args' : Array Value} (ha : VRs ι args args'.toList) {v : Value} {H' : Hp} (h : appendA X H ats.toList args = some (v, H')) :
    ∃ ι' w' v', (Builtin.append_ ats rt args').run X.P w = .ok v' w' ∧ Inv w0 ι' H' w' ∧ Tran ι H w ι' H' w' ∧ VR ι' v v' := by
  unfold appendA at h
  split at h
  · rename_i st xt base len cap x hats
    have h0 : ats[0]? = some st := by have : ats.toList[0]? = some st := by rw [hats]; rfl
                                      simpa using this
    have h1 : ats[1]? = some xt := by have : ats.toList[1]? = some xt := by rw [hats]; rfl
                                      simpa using this
    obtain ⟨s', x', rfl, hsv, hxv⟩ : ∃ s' x', args' = #[s', x'] ∧ VR ι (.slice base len cap) s' ∧ VR ι x x' := by
      rcases args' with ⟨l⟩
      cases ha with
      | cons a t => cases t with
        | cons b t => cases t; exact ⟨_, _, rfl, a, b⟩
    obtain ⟨b', l', c', rfl⟩ := slice_inv hsv
    split at h
    · rename_i e hu
      simp only [Option.bind_eq_some_iff] at h
      obtain ⟨i, hi, z, hz, ⟨n, new⟩, hnew, h⟩ := h
      simp only at h
      obtain ⟨i', hi', hzz, hzv⟩ := zeroOf_eq (ι := ι) hz
      rw [hi] at hi'; cases hi'
      obtain ⟨d, A, hd, hvA, hsrc⟩ := newCells_ok I R hxv hz hnew
      cases hck : (Nat.beq new.length (n * i.size) && Nat.beq z.cells.size i.size) <;> simp only [hck, Bool.not_false, Bool.not_true, cond_true, cond_false] at h
      · cases h
      simp only [Bool.and_eq_true] at hck
      have hnl := Nat.eq_of_beq_eq_true hck.1
      have hzs := Nat.eq_of_beq_eq_true hck.2
      have hAl : A.toList.length = n * i.size := by rw [← hvA.length]; exact hnl
      by_cases hn0 : n = 0
      · subst hn0
        simp only [beq_dec, decide_true, cond_true] at h
        cases hw : within H i.size base len cap <;> simp only [hw, cond_true, cond_false] at h
        · cases h
        · cases h
          obtain ⟨rfl, hle⟩ := within_ok I (.inr trivial) hw hsv
          have hA0 : A.toList = [] := List.eq_nil_of_length_eq_zero (by simpa using hAl)
          refine ⟨ι, w, _, append_fits hu hd hi hzz hzs h0 h1 (A := A) (n := 0) ?_ (by simpa using hle) (fun a _ => by simp [hA0, storeCells]) (fun _ => rfl), I, Tran.refl _ _ _, by simpa using hsv⟩
          rcases hsrc with hs | ⟨a, b, c, dd⟩
          · exact .inl hs
          · exact .inr ⟨a, b, c, by simp, dd⟩
      · simp only [beq_dec, blt_dec, ble_dec, decide_eq_true_eq, hn0, decide_false, cond_false] at h
        cases hcc : (decide (0 < i.size) && decide ((len + n) * (i.bytes + 1) ≤ 1099511627776) && new.all oneCell) <;> simp only [hcc, cond_true, cond_false] at h
        · cases h
        simp only [Bool.and_eq_true, decide_eq_true_eq] at hcc
        obtain ⟨⟨hs0, hsz⟩, hone⟩ := hcc
        have hnb : n * i.bytes ≤ 1099511627776 := by
          have : n * i.bytes ≤ (len + n) * (i.bytes + 1) := Nat.mul_le_mul (by omega) (by omega)
          omega
        -- what is appended, as the two laws want it
        have hfit : ∀ (A : Array Value), (AppSrc X.P w d i.size n x' A ∨ ((∃ k, d = .int k) ∧ (∃ k, x' = .int k (n : Int)) ∧ n ≤ 1099511627776 ∧ A = (repeatL z.cells.toList n).toArray)) →
            (AppSrc X.P w d i.size n x' A ∨ ((∃ k, d = .int k) ∧ (∃ k, x' = .int k (n : Int)) ∧ n ≤ 1099511627776 ∧ n * i.bytes ≤ 1099511627776 ∧ A = (repeatL z.cells.toList n).toArray)) := by
          rintro A (hs | ⟨a, b, c, dd⟩)
          · exact .inl hs
          · exact .inr ⟨a, b, c, hnb, dd⟩
        -- a new row
        have hgrow : ∀ (H1 : Hp), Inv w0 ι H1 w → Tran ι H w ι H1 w → ∀ (old : List Value) (v : Value) (H' : Hp), l' = len → ¬ len + n ≤ c' →
            (∃ O, (Builtin.firstCells i.size len (.slice b' len c')).run X.P { w with drawn := w.drawn + 1 } = .ok O { w with drawn := w.drawn + 1 } ∧ VRs ι old O.toList) → old.length = len * i.size → grown H1 i.size (len + n) (old ++ new) = some (v, H') →
            ∃ ι' w' v', (Builtin.append_ ats rt #[.slice b' l' c', x']).run X.P w = .ok v' w' ∧ Inv w0 ι' H' w' ∧ Tran ι H w ι' H' w' ∧ VR ι' v v' := by
          intro H1 I1 T1 old v H' hl hcap hO hol hg
          have hl2 := hl.symm
          subst hl2
          obtain ⟨O, hO, hvO⟩ := hO
          obtain ⟨d2, A2, hd2, hvA2, hsrc2⟩ := newCells_ok (w := { w with drawn := w.drawn + 1 }) (I.drew _) R hxv hz hnew
          rw [hd] at hd2; cases hd2
          have hlw : ((∃ e, d = .slice e) ∨ d = .string) → (Builtin.lenOf x').run X.P w = .ok n w := by
            intro hdd
            rcases hsrc with hs | ⟨⟨k, rfl⟩, _⟩
            · exact hs.2.1
            · rcases hdd with ⟨_, h⟩ | h <;> cases h
          obtain ⟨newCap, hnc, hrun⟩ := append_grows (A := A2) (O := O) (rt := rt) hu hd hi hzz hzs h0 h1 (by
            rcases hsrc2 with hs | ⟨a, b, c, dd⟩
            · exact .inl ⟨hs.1, hlw hs.1, hs.2.2⟩
            · exact .inr ⟨a, b, c, hnb, dd⟩) hcap hO hsz
          have I1' := I1.drew (w.drawn + 1)
          have hlen : ((O.toList ++ A2.toList) ++ repeatL z.cells.toList (newCap - (len + n))).length = newCap * i.size := by
            simp only [List.length_append, repeat_len]
            have e1 : O.toList.length = len * i.size := by rw [← hvO.length]; exact hol
            have e2 : A2.toList.length = n * i.size := by rw [← hvA2.length]; exact hnl
            rw [e1, e2, Array.length_toList, hzs, ← Nat.add_mul, ← Nat.add_mul]
            congr 1; omega
          obtain ⟨ι', hI, hT, hv⟩ := grown_ok (elem := e) I1' (hvO.append hvA2) hg hs0 hlen
          have eA : ((O.toList ++ A2.toList) ++ repeatL z.cells.toList (newCap - (len + n))).toArray = O ++ A2 ++ (repeatL z.cells.toList (newCap - (len + n))).toArray := by
            apply Array.ext'; simp
          rw [eA] at hI hT
          exact ⟨ι', _, _, hrun, hI, (T1.trans (Tran.drew _)).trans hT, hv⟩
        split at h
        · -- nil
          cases hsv
          simp only [← Bool.decide_and, bif_if] at h
          split at h
          · rename_i hlc
            obtain ⟨rfl, rfl⟩ := hlc
            exact hgrow H I (Tran.refl _ _ _) [] v H' rfl (by omega) ⟨#[], by simp [Builtin.firstCells], .nil⟩ (by simp) (by simpa using h)
          · cases h
        · rename_i b off
          rw [bif_if] at h
          split at h
          · -- it fits
            rename_i hfits
            simp only [Option.bind_eq_some_iff, Option.map_eq_some_iff, Prod.mk.injEq] at h
            obtain ⟨cs, hr, l, hl, rfl, rfl⟩ := h
            cases hsv with
            | slE hB =>
              rename_i B
              obtain ⟨w', hst, hI, hT⟩ := store_row (X := X) I hr hB hvA hone hl
              refine ⟨ι, w', _, append_fits hu hd hi hzz hzs h0 h1 (A := A) (n := n) (hfit A hsrc) hfits (fun a ha => by cases ha; rw [add_off, Nat.add_assoc]; exact hst) (fun h => by cases h), hI, hT, .slE hB _ _⟩
            | slF bb => have : Nat.ble FB (FB + bb) = true := by simp
                        simp [ownRow, this] at hr
          · -- it does not
            rename_i hfits
            simp only [Option.bind_eq_some_iff] at h
            obtain ⟨cs, hr, old, hold, hg⟩ := h
            obtain ⟨hc1, hc2⟩ := cut_eq hold
            have holl : old.length = len * i.size := by rw [hc2]; simp; omega
            have key : ∀ (bb oo : Nat), ((∃ B, ι b = some B ∧ bb = B.block ∧ oo = B.base + off) ∨ (b = FB + bb ∧ oo = off)) → ∃ O, (Builtin.firstCells i.size len (.slice (some ⟨bb, oo, none⟩) len cap)).run X.P { w with drawn := w.drawn + 1 } = .ok O { w with drawn := w.drawn + 1 } ∧ VRs ι old O.toList := by
              intro bb oo hp
              obtain ⟨C, elem, fz, hb, hc⟩ := row_read (w := { w with drawn := w.drawn + 1 }) (I.drew _) R (sp := none) hr hp
              obtain ⟨O, h1, h2⟩ := load_row (X := X) hb hc hold
              exact ⟨O, by simpa [Builtin.firstCells] using h1, h2⟩
            cases hsv with
            | slE hB => exact hgrow H I (Tran.refl _ _ _) old v H' rfl hfits (key _ _ (.inl ⟨_, hB, rfl, rfl⟩)) holl hg
            | slF bb => exact hgrow H I (Tran.refl _ _ _) old v H' rfl hfits (key bb off (.inr ⟨rfl, rfl⟩)) holl hg
        · rename_i b off s'
          simp only [← Bool.decide_and, bif_if] at h
          split at h
          · rename_i hss
            obtain ⟨rfl, rfl⟩ := hss
            simp only [Option.bind_eq_some_iff] at h
            obtain ⟨cs, hr, old, hold, h⟩ := h
            obtain ⟨hc1, hc2⟩ := cut_eq hold
            have holl : old.length = len * i.size := by rw [hc2]; simp; omega
            cases hsv with
            | slPe _ _ hp => exact absurd hp (by omega)
            | slPl _ _ hp => exact absurd hp (by omega)
            | slI hB hs0' =>
              rename_i B
              have hk := own_known I hr hB
              split at h
              · rename_i l hl
                cases h
                obtain ⟨hle, _⟩ := splice_eq hl
                have hfits : len + n ≤ (B.cells - off) / i.size := div_le hs0 (by rw [Nat.add_mul]; omega)
                obtain ⟨w', hst, hI, hT⟩ := store_row (X := X) I hr hB hvA hone hl
                refine ⟨ι, w', _, append_fits hu hd hi hzz hzs h0 h1 (A := A) (n := n) (hfit A hsrc) hfits (fun a ha => by cases ha; rw [add_off, Nat.add_assoc]; exact hst) (fun h => by cases h), hI, hT, .slI hB hs0 _⟩
              · obtain ⟨hg, B', C, elem, fz, hB', hx, hob⟩ := own_inv I hr
                rw [hB] at hB'; cases hB'
                have hblt := I.lt hB
                by_cases hfits : len + n ≤ (B.cells - off) / i.size
                · -- it may have had room
                  have hroom : off + (len + n) * i.size ≤ B.cells := by
                    have := (Nat.le_div_iff_mul_le hs0).1 hfits
                    have hne : 1 ≤ (len + n) * i.size := Nat.mul_pos (by omega) hs0
                    omega
                  obtain ⟨ob1, ob2, ob3, ob4⟩ := hob
                  have hsp : B.base + (off + len * i.size) + A.toList.length ≤ C.size := by
                    rw [hAl]; rw [Nat.add_mul] at hroom; omega
                  have hst := run_storeCells (P := X.P) (b := B.block) (off := B.base + (off + len * i.size)) (elem := elem) (fz := fz) A.toList w C 0 hx (by simpa using hsp) ob4 (by rw [hvA.oneCell]; exact hone)
                  simp only [grown, Option.map_eq_some_iff, Prod.mk.injEq] at h
                  obtain ⟨⟨m, H2⟩, hal, rfl, rfl⟩ := h
                  obtain ⟨ι', hi', hI, hT⟩ := I.rehandle hg hB hal ⟨B.block, B.base + off, B.cells - off⟩ rfl (.cells (spliceC C (B.base + (off + len * i.size)) A.toList) elem fz) fun ι' hext _ => by
                    refine ⟨by rw [spliceC_size hsp]; simp only; omega, ?_, fun j u hj => ?_, fun j hj => ob4 j (by rwa [spliceC_size hsp] at hj)⟩
                    · simp only [List.length_append, holl, hnl]; rw [Nat.add_mul] at hroom; omega
                    · rw [spliceC_get hsp]
                      by_cases hjo : j < len * i.size
                      · rw [List.getElem?_append_left (by omega), hc2, List.getElem?_take, if_pos hjo, List.getElem?_drop] at hj
                        obtain ⟨u', hu1, hu2⟩ := ob3 _ _ hj
                        exact ⟨u', by simp only; rw [if_pos (by omega), Nat.add_assoc]; exact hu1, hu2.mono hext⟩
                      · rw [List.getElem?_append_right (by omega), holl] at hj
                        obtain ⟨u', hu1, hu2⟩ := hvA.get hj
                        have hjl : j - len * i.size < A.toList.length := by
                          rcases Nat.lt_or_ge (j - len * i.size) A.toList.length with h' | h'
                          · exact h'
                          · simp [List.getElem?_eq_none h'] at hu1
                        exact ⟨u', by simp only; rw [if_neg (by omega), if_pos (by omega), show B.base + off + j - (B.base + (off + len * i.size)) = j - len * i.size from by omega]; exact hu1, hu2.mono hext⟩
                  refine ⟨ι', _, _, append_fits hu hd hi hzz hzs h0 h1 (A := A) (n := n) (hfit A hsrc) hfits (fun a ha => by cases ha; rw [add_off, Nat.add_assoc]; simpa [putW] using hst) (fun h => by cases h), hI, hT, ?_⟩
                  have := VR.slI (off := 0) hi' hs0 (len + n)
                  simpa using this
                · obtain ⟨I1, T1⟩ := I.kill hblt
                  refine hgrow (H.kill b) I1 T1 old v H' rfl hfits ?_ holl h
                  obtain ⟨C2, elem2, fz2, hb2, hc3⟩ := row_read (w := { w with drawn := w.drawn + 1 }) (I.drew _) R (n := b) (off := off) (sp := none) (cs := cs) (by
                    have : Nat.ble FB b = false := by rw [ble_dec]; simp; omega
                    simp only [rowAt, this, cond_false, hg]) (.inl ⟨B, hB, rfl, rfl⟩)
                  obtain ⟨O, h1, h2⟩ := load_row (X := X) hb2 hc3 hold
                  exact ⟨O, by simpa [Builtin.firstCells] using h1, h2⟩
          · cases h
    · cases h
  · cases h
end
end Go.Am
