/- The abstract machine's operations are the model's: slices that are made and grow. -/
import Derived.Test.YtmbiniafgdbbfaaGreatAmX
set_option linter.unusedSimpArgs false
set_option linter.unusedVariables false
set_option linter.unusedVariables false
namespace Go.Am
section
variable {X : Cx} {w0 : World} {ι : Iota} {H : Hp} {w : World}

theorem repeat_vr {z : Value} (hz : VR ι z z) (n : Nat) : VRs ι (repeatL z.cells.toList n) (repeatL z.cells.toList n) := by
  induction n with
  | zero => exact .nil
  | succ n ih => exact hz.cells.append ih

/-- A new row with cells behind those that are known. -/
theorem grown_ok (I : Inv w0 ι H w) {s need : Nat} {cs cs' rest : List Value} {elem : TypeId} {newCap : Nat} (hv : VRs ι cs cs') {v : Value} {H' : Hp} (h : grown H s need cs = some (v, H')) (hs : 0 < s) (hc : (cs' ++ rest).length = newCap * s) :
    ∃ ι', Inv w0 ι' H' (pushW w (.cells (cs' ++ rest).toArray elem (0, 0))) ∧ Tran ι H w ι' H' (pushW w (.cells (cs' ++ rest).toArray elem (0, 0))) ∧ VR ι' v (.slice (some ⟨w.heap.size, 0, none⟩) need newCap) := by
  simp only [grown, Option.map_eq_some_iff, Prod.mk.injEq] at h
  obtain ⟨⟨n, H2⟩, ha, rfl, rfl⟩ := h
  obtain ⟨ι', hi, hI, hT⟩ := alloc_row I hv ha rest elem
  refine ⟨ι', hI, hT, ?_⟩
  have := VR.slI (off := 0) hi hs need
  have e : ((cs' ++ rest).length - 0) / s = newCap := by rw [hc]; simp [Nat.mul_div_cancel _ hs]
  simpa only [e, Nat.zero_add] using this

theorem next_le (n c : Nat) (h : c < n) : Builtin.nextslicecap n c ≤ 2 * n + 192 := by
  have grow : ∀ r c, c < n → Builtin.growBy n r c ≤ 2 * n + 192 := by
    intro r
    induction r with
    | zero => intro c h; simp [Builtin.growBy]; omega
    | succ r ih =>
      intro c h
      simp only [Builtin.growBy]
      rw [if_neg (by omega)]
      by_cases h2 : c + (c + 768) / 4 < n
      · exact ih _ h2
      · cases r with
        | zero => simp [Builtin.growBy]; omega
        | succ r => simp only [Builtin.growBy]; rw [if_pos (by omega)]; omega
  unfold Builtin.nextslicecap
  split
  · omega
  · split
    · omega
    · exact grow 4 c h

theorem firstA_ok (I : Inv w0 ι H w) (R : RoOk X w0) {s n : Nat} {x x' : Value} (hx : VR ι x x') {l : List Value} (h : firstA X H s n x = some l) : ∃ A, (Builtin.firstCells s n x').run X.P w = .ok A w ∧ VRs ι l A.toList := by
  have key : ∀ (b off bb oo : Nat), ((∃ B, ι b = some B ∧ bb = B.block ∧ oo = B.base + off) ∨ (b = FB + bb ∧ oo = off)) → ((rowAt X H b).bind fun cs => cut cs off (n * s)) = some l → ∃ A, (loadCells ⟨bb, oo, none⟩ (n * s)).run X.P w = .ok A w ∧ VRs ι l A.toList := by
    intro b off bb oo hp h
    simp only [Option.bind_eq_some_iff] at h
    obtain ⟨cs, hr, hl⟩ := h
    obtain ⟨C, elem, fz, hb, hc⟩ := row_read I R (sp := none) hr hp
    exact load_row hb hc hl
  unfold firstA at h
  split at h
  · cases hx with
    | slE hB => obtain ⟨A, h1, h2⟩ := key _ _ _ _ (.inl ⟨_, hB, rfl, rfl⟩) h; exact ⟨A, by simp [Builtin.firstCells, h1], h2⟩
    | slF bb => obtain ⟨A, h1, h2⟩ := key _ _ bb _ (.inr ⟨rfl, rfl⟩) h; exact ⟨A, by simp [Builtin.firstCells, h1], h2⟩
  · simp only [beq_dec, bif_if] at h
    split at h
    · rename_i hp0
      cases hx with
      | slI hB => obtain ⟨A, h1, h2⟩ := key _ _ _ _ (.inl ⟨_, hB, rfl, rfl⟩) h; exact ⟨A, by simp [Builtin.firstCells, h1], h2⟩
      | slPe hB hs hp hc => omega
      | slPl hB hs hp hc => omega
    · split at h
      · rename_i hz
        cases h
        cases hx <;> exact ⟨#[], by simp [Builtin.firstCells, hz, loadCells, loadCellsFrom], .nil⟩
      · cases h
  · rename_i len cap
    simp only [beq_dec, bif_if] at h
    split at h
    · cases h; cases hx; exact ⟨#[], by simp [Builtin.firstCells], .nil⟩
    · cases h
  · cases h; cases hx
    rename_i t
    refine ⟨((t.extract 0 n).data.map fun b => .int .u8 b.toNat), by simp [Builtin.firstCells], ?_⟩
    have : ((t.extract 0 n).data.map fun b => (Value.int .u8 b.toNat)).toList = (t.data.toList.take n).map fun b => Value.int .u8 b.toNat := by
      simp [ByteArray.data_extract, List.extract_eq_take_drop]
    rw [this]
    exact VRs.map fun b _ => .int _ _
  · cases h

theorem wrap_nat {n : Nat} (h : n ≤ 1099511627776) : IntKind.i64.wrap (n : Int) = n := by
  have e1 : IntKind.i64.bits = 64 := rfl
  have e2 : IntKind.i64.signed = true := rfl
  unfold IntKind.wrap
  simp only [e1, e2]
  have h2 : ((n : Int) % 2 ^ 64) = n := by
    rw [Int.emod_eq_of_lt] <;> omega
  rw [h2]
  simp
  omega

/-- What makeslice lays. -/
theorem makeSliceA_ok (I : Inv w0 ι H w) {t : TypeId} {l l' c c' v : Value} {H' : Hp} (hl : VR ι l l') (hc : VR ι c c') (h : makeSliceA X H t l c = some (v, H')) :
    ∃ ι' w' v', (Instr.makeSlice t l' c').run X.P w = .ok v' w' ∧ Inv w0 ι' H' w' ∧ Tran ι H w ι' H' w' ∧ VR ι' v v' := by
  unfold makeSliceA at h
  split at h
  · rename_i e hu
    simp only [Option.bind_eq_some_iff] at h
    obtain ⟨i, hi, z, hz, ln, hln, cn, hcn, h⟩ := h
    simp only [ble_dec, beq_dec, ← Bool.decide_and, bif_if] at h
    split at h
    · rename_i hcond
      obtain ⟨⟨⟨h1, h2⟩, h3⟩, h4⟩ := hcond
      simp only [Option.map_eq_some_iff, Prod.mk.injEq] at h
      obtain ⟨⟨n, H2⟩, ha, rfl, rfl⟩ := h
      obtain ⟨k1, rfl⟩ := natOf_vr hln hl
      obtain ⟨k2, rfl⟩ := natOf_vr hcn hc
      have hzv := zeroOf_vr (ι := ι) hz
      obtain ⟨ι', hi', hI, hT⟩ := alloc_row I (repeat_vr hzv cn) ha [] e
      refine ⟨ι', _, .slice (some ⟨w.heap.size, 0, none⟩) ln cn, ?_, hI, hT, by simpa using VR.slE (off := 0) hi' ln cn⟩
      have hw1 := wrap_nat (show ln ≤ 1099511627776 by omega)
      have hw2 := wrap_nat h3
      have t1 : (decide ((cn : Int) < 0) || decide ((i.bytes : Int) * (cn : Int) > 2 ^ 48)) = false := by
        have e : (i.bytes : Int) * (cn : Int) = ((cn * i.bytes : Nat) : Int) := by rw [Int.natCast_mul, Int.mul_comm]
        have p : (2 : Int) ^ 48 = 281474976710656 := by decide
        rw [e, p]
        simp; omega
      have t2 : ¬ (ln : Int) < 0 := by omega
      have t3 : ¬ (ln : Int) > (cn : Int) := by omega
      obtain ⟨i', hi2, hzz, _⟩ := zeroOf_eq (ι := ι) hz
      rw [hi] at hi2; cases hi2
      simp only [Instr.makeSlice, Sem.run_bind, run_underlying' hu, Result.andThen_ok, asInt, asIntOf, Sem.run_pure, run_typeInfo hi, hw1, hw2, t1, t2, t3, decide_false, Bool.or_false, Bool.false_eq_true, if_false, run_askRoom, Int.toNat_natCast, run_sizeOf hi]
      by_cases h0 : cn * i.size = 0
      · simp only [h0, if_true, Sem.run_pure, Result.andThen_ok]
        have hr0 : (repeatL z.cells.toList cn) = [] := by
          apply List.eq_nil_of_length_eq_zero; rw [repeat_len]; simp only [Array.length_toList, h4]; exact h0
        have e0 : ((Array.range 0).map fun x => (#[] : Array Value)[x % (#[] : Array Value).size]!) = #[] := by simp
        simp only [e0, newRow_run, Sem.run_bind, Result.andThen_ok, Sem.run_pure, hr0, List.append_nil]
      · simp only [h0, if_false, Sem.run_bind, run_zeroValue hi hzz, Result.andThen_ok, Sem.run_pure]
        rw [← h4, zeros_eq]
        simp only [newRow_run, Sem.run_bind, Result.andThen_ok, Sem.run_pure, List.append_nil]
    · cases h
  · cases h
end
end Go.Am
