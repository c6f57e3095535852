/- The abstract machine's operations are the model's: structs, addresses, slices, numbers. -/
import Derived.Test.YtmbiniafgdbbfaaGreatAmO
set_option linter.unusedSimpArgs false
set_option linter.unusedVariables false
set_option linter.unusedVariables false
namespace Go.Am
section
variable {X : Cx} {w0 : World} {ι : Iota} {H : Hp} {w : World}

theorem fold_splice : ∀ (vs : List Value) (k off : Nat) (C : Array Value), off + k + vs.length ≤ C.size →
    (vs.zipIdx k).foldl (fun (cs : Array Value) (x : Value × Nat) => cs.setIfInBounds (off + x.2) x.1) C = spliceC C (off + k) vs
  | [], k, off, C, h => by simp [spliceC]
  | v :: vs, k, off, C, h => by
    simp only [List.length_cons] at h
    simp only [List.zipIdx_cons, List.foldl_cons]
    rw [fold_splice vs (k + 1) off _ (by simp; omega)]
    apply Array.ext_getElem?
    intro j
    rw [spliceC_get (by simp; omega), spliceC_get (by simp; omega)]
    simp only [List.length_cons, Array.getElem?_setIfInBounds]
    by_cases h1 : j < off + k
    · rw [if_pos (by omega), if_pos h1, if_neg (by omega)]
    · by_cases h2 : j = off + k
      · subst h2
        simp [show off + k < C.size from by omega, show off + k < off + (k + 1) from by omega, show ¬ off + k < off + k from by omega]
      · have h4 : ¬ (off + k = j) := fun e => h2 e.symm
        have h5 : ¬ (j < off + (k + 1)) := by omega
        simp only [h4, h5, h1, if_false]
        by_cases h3 : j < off + k + (vs.length + 1)
        · rw [if_pos (by omega), if_pos h3, show j - (off + k) = (j - (off + (k + 1))) + 1 from by omega]; simp
        · rw [if_neg (by omega), if_neg h3]

theorem fill_ok (place : Nat → Option (Nat × Nat)) : ∀ (ps ps' : List (Nat × Value)) (cs l : List Value) (C : Array Value), ps.length = ps'.length → (∀ (i : Nat) p, ps[i]? = some p → ∃ p', ps'[i]? = some p' ∧ p'.1 = p.1 ∧ VR ι p.2 p'.2) →
    VRs ι cs C.toList → fillA place cs ps = some l → ∃ L, Instr.fill place C ps' = some L ∧ VRs ι l L.toList
  | [], [], cs, l, C, hl, hp, hv, h => by
    simp [fillA] at h; subst h
    exact ⟨C, rfl, hv⟩
  | [], _ :: _, _, _, _, hl, _, _, _ => by simp at hl
  | _ :: _, [], _, _, _, hl, _, _, _ => by simp at hl
  | (i, v) :: ps, (i', v') :: ps', cs, l, C, hl, hp, hv, h => by
    obtain ⟨p', e, h1, h2⟩ := hp 0 (i, v) (by simp)
    simp at e; subst e
    simp only at h1 h2; subst h1
    simp only [fillA, Option.bind_eq_some_iff] at h
    obtain ⟨⟨off, size⟩, hpl, h⟩ := h
    simp only at h
    cases hb : Nat.beq v.cells.size size <;> simp only [hb, cond_true, cond_false] at h
    · cases h
    · simp only [Option.bind_eq_some_iff] at h
      obtain ⟨cs', hs, h⟩ := h
      have hsz := Nat.eq_of_beq_eq_true hb
      obtain ⟨hle, rfl⟩ := splice_eq hs
      have hlen := hv.length
      have hcl := h2.cells_size
      have hclen : v'.cells.toList.length = v.cells.toList.length := by simp [hcl]
      have hvl : v.cells.toList.length = v.cells.size := by simp
      have hCl : C.toList.length = C.size := by simp
      obtain ⟨L, hL, hvL⟩ := fill_ok place ps ps' _ l (spliceC C off v'.cells.toList) (by simpa using hl) (fun j p hj => by simpa using hp (j + 1) p (by simpa using hj))
        (by simpa [spliceC] using hv.splice h2.cells off) h
      refine ⟨L, ?_, hvL⟩
      simp only [Instr.fill, hpl]
      rw [if_neg (by simp only [ne_eq, Bool.or_eq_true, decide_eq_true_eq, not_or]; constructor <;> omega)]
      rw [← hL]
      congr 1
      have := fold_splice v'.cells.toList 0 off C (by omega)
      rw [Nat.add_zero] at this
      rw [← this, ← Array.foldl_toList, Array.toList_zipIdx]

theorem mapOpt_run {α β : Type} {f : α → Option β} {g : α → Sem β} {P : Program} (hg : ∀ x y, f x = some y → (g x).run P w = .ok y w) : ∀ (l : List α) (r : List β), mapOpt f l = some r → (l.mapM g).run P w = .ok r w
  | [], r, h => by simp [mapOpt] at h; subst h; simp
  | a :: l, r, h => by
    simp only [mapOpt, Option.bind_eq_some_iff, Option.map_eq_some_iff] at h
    obtain ⟨b, hb, r', hr, rfl⟩ := h
    simp [hg a b hb, mapOpt_run hg l r' hr]

theorem parts_vr {ρ ρ' : Operand → Value} {ps : Array (Nat × Operand)} (h : ∀ x ∈ ps.toList.map (·.2), VR ι (ρ x) (ρ' x)) :
    ∀ (i : Nat) p, (ps.toList.map fun (i, x) => (i, ρ x))[i]? = some p → ∃ p', (ps.map fun (i, x) => (i, ρ' x)).toList[i]? = some p' ∧ p'.1 = p.1 ∧ VR ι p.2 p'.2 := by
  intro i p hp
  simp only [List.getElem?_map, Option.map_eq_some_iff] at hp
  obtain ⟨⟨j, x⟩, hx, rfl⟩ := hp
  have hx' : ps[i]? = some (j, x) := by simpa using hx
  exact ⟨(j, ρ' x), by simp [hx'], rfl, h x (List.mem_map.2 ⟨(j, x), List.mem_of_getElem? hx, rfl⟩)⟩

theorem buildA_ok {t : TypeId} {ps : Array (Nat × Operand)} {ρ ρ' : Operand → Value} (hp : ∀ x ∈ ps.toList.map (·.2), VR ι (ρ x) (ρ' x)) {v : Value} (h : buildA X t (ps.toList.map fun (i, x) => (i, ρ x)) = some v) :
    ∃ v', (Instr.build t (ps.map fun (i, x) => (i, ρ' x))).run X.P w = .ok v' w ∧ VR ι v v' := by
  simp only [buildA, Option.bind_eq_some_iff] at h
  obtain ⟨z, hz, h⟩ := h
  have hzv := zeroOf_vr (ι := ι) hz
  split at h
  · rename_i fs hu
    simp only [Option.bind_eq_some_iff, Option.map_eq_some_iff] at h
    obtain ⟨pl, hpl, l, hl, rfl⟩ := h
    obtain ⟨L, hL, hvr⟩ := fill_ok (ι := ι) (fun i => pl[i]?) _ (ps.map fun (i, x) => (i, ρ' x)).toList _ l z.cells (by simp) (parts_vr hp) hzv.cells hl
    have hm : (fs.mapM fun f => do pure (f.offset, ← Go.sizeOf f.type) : Sem (Array (Nat × Nat))).run X.P w = .ok pl.toArray w := by
      rw [Array.mapM_eq_mapM_toList]
      simp only [Sem.run_map]
      rw [mapOpt_run (fun f y hy => ?_) fs.toList pl hpl]
      · rfl
      · simp only [Option.map_eq_some_iff] at hy
        obtain ⟨s, hs, rfl⟩ := hy
        simp [run_sizeOf' hs]
    refine ⟨.agg L, ?_, .agg (by simpa using hvr)⟩
    have hpl' : (fun (i : Nat) => pl.toArray[i]?) = fun (i : Nat) => pl[i]? := by funext i; simp
    simp only [Instr.build, Sem.run_bind, run_zeroOf hz, Result.andThen_ok, run_underlying' hu, hm, hpl', hL, Sem.run_pure]
  · rename_i n e hu
    simp only [Option.bind_eq_some_iff, Option.map_eq_some_iff] at h
    obtain ⟨s, hs, l, hl, rfl⟩ := h
    obtain ⟨L, hL, hvr⟩ := fill_ok (ι := ι) (fun i => some (i * s, s)) _ (ps.map fun (i, x) => (i, ρ' x)).toList _ l z.cells (by simp) (parts_vr hp) hzv.cells hl
    refine ⟨.agg L, ?_, .agg (by simpa using hvr)⟩
    simp only [Instr.build, Sem.run_bind, run_zeroOf hz, Result.andThen_ok, run_underlying' hu, run_sizeOf' hs, hL, Sem.run_pure]
  · cases h

theorem repeat_len (z : List Value) (n : Nat) : (repeatL z n).length = n * z.length := by
  induction n with
  | zero => simp [repeatL]
  | succ n ih => simp [repeatL, ih, Nat.succ_mul, Nat.add_comm]
theorem repeat_get (z : List Value) : ∀ (n i : Nat), i < n * z.length → (repeatL z n)[i]? = z[i % z.length]?
  | 0, i, h => by simp at h
  | n + 1, i, h => by
    have hz : 0 < z.length := by
      rcases Nat.eq_zero_or_pos z.length with e | e
      · rw [e] at h; simp at h
      · exact e
    rw [repeatL]
    by_cases hi : i < z.length
    · rw [List.getElem?_append_left hi, Nat.mod_eq_of_lt hi]
    · rw [List.getElem?_append_right (by omega), repeat_get z n (i - z.length) (by rw [Nat.succ_mul] at h; omega)]
      congr 1
      rw [← Nat.mod_eq_sub_mod (by omega)]
/-- The model's way to lay zero cells. -/
theorem zeros_eq (z : Array Value) (n : Nat) : ((Array.range (n * z.size)).map fun i => z[i % z.size]!) = (repeatL z.toList n).toArray := by
  apply Array.ext_getElem?
  intro i
  by_cases h : i < n * z.size
  · have hz : 0 < z.size := by
      rcases Nat.eq_zero_or_pos z.size with e | e
      · rw [e] at h; simp at h
      · exact e
    have hm : i % z.size < z.size := Nat.mod_lt _ hz
    have := repeat_get z.toList n i (by simpa using h)
    simp only [Array.length_toList] at this
    simp only [List.getElem?_toArray, this]
    simp [h, hm]
  · have h1 : ¬ i < (repeatL z.toList n).length := by rw [repeat_len]; simpa using h
    rw [Array.getElem?_eq_none (by simpa using h), Array.getElem?_eq_none (by simpa using h1)]

theorem buildSliceA_ok (I : Inv w0 ι H w) {t : TypeId} {len : Nat} {ps : Array (Nat × Operand)} {ρ ρ' : Operand → Value} (hp : ∀ x ∈ ps.toList.map (·.2), VR ι (ρ x) (ρ' x)) {v : Value} {H' : Hp}
    (h : buildSliceA X H t len (ps.toList.map fun (i, x) => (i, ρ x)) = some (v, H')) :
    ∃ ι' w' v', (Instr.buildSlice t len (ps.map fun (i, x) => (i, ρ' x))).run X.P w = .ok v' w' ∧ Inv w0 ι' H' w' ∧ Tran ι H w ι' H' w' ∧ VR ι' v v' := by
  unfold buildSliceA at h
  split at h
  · rename_i e hu
    simp only [Option.bind_eq_some_iff] at h
    obtain ⟨s, hs, z, hz, h⟩ := h
    cases hb : (Nat.ble (len * s) 65536 && Nat.beq z.cells.size s) <;> simp only [hb, cond_true, cond_false] at h
    · cases h
    · simp only [Option.bind_eq_some_iff, Option.map_eq_some_iff, Prod.mk.injEq] at h
      obtain ⟨cs, hf, ⟨n, H2⟩, ha, rfl, rfl⟩ := h
      simp only [Bool.and_eq_true] at hb
      have hle := Nat.le_of_ble_eq_true hb.1
      have hzs := Nat.eq_of_beq_eq_true hb.2
      subst hzs
      have hzv := zeroOf_vr (ι := ι) hz
      have hrep : VRs ι (repeatL z.cells.toList len) (repeatL z.cells.toList len) := VRs.of_get rfl fun i v hi => by
        refine ⟨v, hi, ?_⟩
        have hlt : i < len * z.cells.toList.length := by
          rw [← repeat_len]
          rcases Nat.lt_or_ge i (repeatL z.cells.toList len).length with h' | h'
          · exact h'
          · simp [List.getElem?_eq_none h'] at hi
        rw [repeat_get _ _ _ hlt] at hi
        obtain ⟨x, hx, hv⟩ := hzv.cells.get hi
        rw [hi] at hx; cases hx; exact hv
      obtain ⟨L, hL, hvr⟩ := fill_ok (ι := ι) (fun i => some (i * z.cells.size, z.cells.size)) _ (ps.map fun (i, x) => (i, ρ' x)).toList _ cs (repeatL z.cells.toList len).toArray (by simp) (parts_vr hp) (by simpa using hrep) hf
      obtain ⟨ι', hi, hI, hT⟩ := alloc_row I hvr ha [] e
      simp only [List.append_nil, Array.toArray_toList] at hi hI hT
      refine ⟨ι', _, .slice (some ⟨w.heap.size, 0, none⟩) len len, ?_, hI, hT, by simpa using VR.slE (off := 0) hi len len⟩
      have hcap : ¬ (len * z.cells.size > 2 ^ 24) := by omega
      simp only [Instr.buildSlice, Sem.run_bind, run_underlying' hu, Result.andThen_ok, run_sizeOf' hs, hcap, if_false]
      by_cases h0 : len * z.cells.size = 0
      · simp only [h0, if_true, Sem.run_pure, Result.andThen_ok]
        have hr0 : (repeatL z.cells.toList len).toArray = #[] := by
          apply Array.eq_empty_of_size_eq_zero; simpa [repeat_len] using h0
        rw [hr0] at hL
        have e0 : ((Array.range 0).map fun x => (#[] : Array Value)[x % (#[] : Array Value).size]!) = #[] := by simp
        simp only [e0, hL, newRow_run, Sem.run_bind, Result.andThen_ok, Sem.run_pure]
      · simp only [h0, if_false, Sem.run_bind, run_zeroOf hz, Result.andThen_ok, Sem.run_pure, zeros_eq, hL, newRow_run]
  · cases h

theorem fieldAddrA_ok (I : Inv w0 ι H w) {t : TypeId} {f : Nat} {a a' v : Value} (ha : VR ι a a') (h : fieldAddrA X t f a = some v) : ∃ v', (Instr.fieldAt t a' f).run X.P w = .ok v' w ∧ VR ι v v' := by
  unfold fieldAddrA at h
  split at h
  · rename_i n off
    simp only [Option.bind_eq_some_iff, fieldsOf] at h
    obtain ⟨fs, hfs, fd, hfd, s, hs, h⟩ := h
    split at hfs
    · rename_i fs' hu
      cases hfs
      cases hb : Nat.beq s 0 <;> simp only [hb, cond_true, cond_false] at h
      · cases h
        have hs0 : s ≠ 0 := fun e => by subst e; simp at hb
        have hfd' : fs'[f]? = some fd := by simpa using hfd
        cases ha with
        | ptr hn =>
          rename_i B
          exact ⟨.pointer (some ⟨B.block, B.base + off + fd.offset, none⟩), by simp [Instr.fieldAt, run_underlying' hu, hfd', Instr.sureAddr, fieldPlace, run_sizeOf' hs, hs0, add_off], by have := VR.ptr (off := off + fd.offset) hn; rwa [← Nat.add_assoc] at this⟩
        | ptrF b off =>
          exact ⟨.pointer (some ⟨b, off + fd.offset, none⟩), by simp [Instr.fieldAt, run_underlying' hu, hfd', Instr.sureAddr, fieldPlace, run_sizeOf' hs, hs0, add_off], .ptrF _ _⟩
      · cases h
    · cases hfs
  · cases h

theorem partA_ok {t : TypeId} {cs : List Value} {C : Array Value} (hv : VRs ι cs C.toList) {off : Nat} {v : Value} (h : partA X t cs off = some v) : ∃ v', (part t C off).run X.P w = .ok v' w ∧ VR ι v v' := by
  simp only [partA, Option.bind_eq_some_iff] at h
  obtain ⟨g, hg, h⟩ := h
  cases g
  · simp only at h
    obtain ⟨x, hx, hvr⟩ := hv.get h
    have : C[off]? = some x := by simpa using hx
    exact ⟨x, by simp [part, run_isAgg' hg, this], hvr⟩
  · simp only [Option.bind_eq_some_iff, Option.map_eq_some_iff] at h
    obtain ⟨s, hs, l, hl, rfl⟩ := h
    obtain ⟨hle, rfl⟩ := cut_eq hl
    refine ⟨.agg (C.extract off (off + s)), by simp [part, run_isAgg' hg, run_sizeOf' hs], .agg ?_⟩
    simp only [Array.toList_extract, List.extract_eq_take_drop, Nat.add_sub_cancel_left]
    exact (hv.drop off).take s

theorem fieldA_ok {t : TypeId} {f : Nat} {a a' v : Value} (ha : VR ι a a') (h : fieldA X t f a = some v) : ∃ v', (Instr.field t a' f).run X.P w = .ok v' w ∧ VR ι v v' := by
  unfold fieldA at h
  split at h
  · rename_i cs
    simp only [Option.bind_eq_some_iff, fieldsOf] at h
    obtain ⟨fs, hfs, fd, hfd, h⟩ := h
    split at hfs
    · rename_i fs' hu
      cases hfs
      cases ha with
      | agg hv =>
        obtain ⟨v', hrun, hvr⟩ := partA_ok (w := w) hv h
        have hfd' : fs'[f]? = some fd := by simpa using hfd
        exact ⟨v', by simp [Instr.field, run_underlying' hu, hfd', asAgg, hrun], hvr⟩
    · cases hfs
  · cases h

theorem elemAddr_eq {e : TypeId} {n off len : Nat} {i : Int} {v : Value} (h : elemAddr X e n off len i = some v) : ∃ s k, sizeOf' X e = some s ∧ i = Int.ofNat k ∧ k < len ∧ v = .pointer (some ⟨n, off + k * s, none⟩) := by
  simp only [elemAddr, Option.bind_eq_some_iff] at h
  obtain ⟨s, hs, h⟩ := h
  split at h
  · rename_i k
    cases hb : Nat.blt k len <;> simp only [hb, cond_true, cond_false] at h
    · cases h
    · cases h
      exact ⟨s, k, hs, rfl, by simpa [Nat.blt_eq] using hb, rfl⟩
  · cases h

theorem indexAddrA_ok {t : TypeId} {a a' i i' v : Value} (ha : VR ι a a') (hi : VR ι i i') (h : indexAddrA X t a i = some v) : ∃ v', (Instr.indexAt t a' i').run X.P w = .ok v' w ∧ VR ι v v' := by
  unfold indexAddrA at h
  split at h
  · rename_i k n len e m off hu
    obtain ⟨s, j, hs, rfl, hj, rfl⟩ := elemAddr_eq h
    cases hi
    cases ha with
    | ptr hn =>
      rename_i B
      exact ⟨.pointer (some ⟨B.block, B.base + off + j * s, none⟩), by simp [Instr.indexAt, asIntOf, run_underlying' hu, Instr.sureAddr, run_sizeOf' hs, hj, add_off], by have := VR.ptr (off := off + j * s) hn; rwa [← Nat.add_assoc] at this⟩
    | ptrF b off => exact ⟨.pointer (some ⟨b, off + j * s, none⟩), by simp [Instr.indexAt, asIntOf, run_underlying' hu, Instr.sureAddr, run_sizeOf' hs, hj, add_off], .ptrF _ _⟩
  · rename_i k n e m off sp len cap hu
    obtain ⟨s, j, hs, rfl, hj, rfl⟩ := elemAddr_eq h
    cases hi
    cases ha with
    | slE hn =>
      rename_i B
      exact ⟨.pointer (some ⟨B.block, B.base + off + j * s, none⟩), by simp [Instr.indexAt, asIntOf, run_underlying' hu, run_sizeOf' hs, hj, add_off], by have := VR.ptr (off := off + j * s) hn; rwa [← Nat.add_assoc] at this⟩
    | slI hn hs' =>
      rename_i s' B
      exact ⟨.pointer (some ⟨B.block, B.base + off + j * s, none⟩), by simp [Instr.indexAt, asIntOf, run_underlying' hu, run_sizeOf' hs, hj, add_off], by have := VR.ptr (off := off + j * s) hn; rwa [← Nat.add_assoc] at this⟩
    | slPe => omega
    | slPl => omega
    | slF b off => exact ⟨.pointer (some ⟨b, off + j * s, none⟩), by simp [Instr.indexAt, asIntOf, run_underlying' hu, run_sizeOf' hs, hj, add_off], .ptrF _ _⟩
  · cases h

theorem indexA_ok {t : TypeId} {a a' i i' v : Value} (ha : VR ι a a') (hi : VR ι i i') (h : indexA X t a i = some v) : ∃ v', (Instr.index t a' i').run X.P w = .ok v' w ∧ VR ι v v' := by
  unfold indexA at h
  split at h
  · rename_i k j len e cs hu
    cases hi
    simp only [Option.bind_eq_some_iff] at h
    obtain ⟨s, hs, h⟩ := h
    cases hb : Nat.blt j len <;> simp only [hb, cond_true, cond_false] at h
    · cases h
    · have hj : j < len := by simpa [Nat.blt_eq] using hb
      cases ha with
      | agg hv =>
        obtain ⟨v', hrun, hvr⟩ := partA_ok (w := w) hv h
        exact ⟨v', by simp [Instr.index, asIntOf, run_underlying' hu, run_sizeOf' hs, hj, hrun], hvr⟩
  · rename_i k j s hu
    cases hi
    simp only [Option.map_eq_some_iff] at h
    obtain ⟨b, hb, rfl⟩ := h
    cases ha
    have hlt : j < s.size := by
      rcases Nat.lt_or_ge j s.data.toList.length with h' | h'
      · simpa using h'
      · simp [List.getElem?_eq_none h'] at hb
    have hsb : s[j]? = some b := by
      have h1 : s.data.toList[j]? = some s.data[j] := by rw [List.getElem?_eq_getElem (by simpa using hlt)]; simp
      rw [h1] at hb; cases hb
      rw [getElem?_pos s j hlt]; rfl
    exact ⟨.int .u8 b.toNat, by simp [Instr.index, asIntOf, run_underlying' hu, hsb], .int _ _⟩
  · cases h
end
end Go.Am
