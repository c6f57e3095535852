/- The abstract machine's operations are the model's: memory, structs, numbers. -/
import Derived.Test.YtmbiniafgdbbfaaGreatAmM
set_option linter.unusedSimpArgs false
set_option linter.unusedVariables false
set_option linter.unusedVariables false
namespace Go.Am

def RoOk (X : Cx) (w0 : World) : Prop := ∀ b cs, X.ro b = some cs → ∃ C elem fz, w0.heap[b]? = some (.cells C elem fz) ∧ ∀ (i : Nat) (v : Value), cs[i]? = some v → ∃ x, C[i]? = some x ∧ ∀ ι, VR ι v x

def Does (P : Program) (w0 : World) (ι : Iota) (H : Hp) (w : World) (s : Sem Next) (v : Value) (H' : Hp) : Prop :=
  ∃ ι' w' v', (s.run P w = .ok (.value v') w' ∨ (s.run P w = .ok .skip w' ∧ v' = undef)) ∧ Inv w0 ι' H' w' ∧ Tran ι H w ι' H' w' ∧ VR ι' v v'

/-- What only computes. -/
theorem Does.same {P : Program} {w0 : World} {ι : Iota} {H : Hp} {w : World} {s : Sem Next} {v v' : Value} (I : Inv w0 ι H w) (h : s.run P w = .ok (.value v') w) (hv : VR ι v v') : Does P w0 ι H w s v H :=
  ⟨ι, w, v', .inl h, I, Tran.refl _ _ _, hv⟩

theorem size_lt {α : Type} {a : Array α} {i : Nat} {x : α} (h : a[i]? = some x) : i < a.size := by
  rcases Nat.lt_or_ge i a.size with h' | h'
  · exact h'
  · simp [Array.getElem?_eq_none h'] at h

section
variable {X : Cx} {w0 : World} {ι : Iota} {H : Hp} {w : World}

theorem zeroOf_eq {t : TypeId} {z : Value} (h : zeroOf X t = some z) : ∃ i, X.P.info? t = some i ∧ i.zero = some z ∧ VR ι z z := by
  simp only [zeroOf, Option.bind_eq_some_iff] at h
  obtain ⟨z', ⟨i, hi, hz⟩, hc⟩ := h
  cases hcl : closed z' <;> simp [hcl] at hc
  subst hc
  exact ⟨i, hi, hz, VR.closed _ hcl⟩
theorem sizeOf'_eq {t : TypeId} {s : Nat} (h : sizeOf' X t = some s) : ∃ i, X.P.info? t = some i ∧ i.size = s := by
  simpa [sizeOf'] using h
theorem run_sizeOf' {t : TypeId} {s : Nat} (h : sizeOf' X t = some s) : (Go.sizeOf t).run X.P w = .ok s w := by
  obtain ⟨i, hi, rfl⟩ := sizeOf'_eq h; exact run_sizeOf hi
theorem run_isAgg' {t : TypeId} {b : Bool} (h : isAgg' X t = some b) : (isAgg t).run X.P w = .ok b w := by
  simp only [isAgg', Option.map_eq_some_iff] at h
  obtain ⟨d, hd, hb⟩ := h
  simp only [isAgg, Sem.run_bind, run_underlying' hd, Result.andThen_ok]
  cases d <;> simp_all
theorem run_zeroOf {t : TypeId} {z : Value} (h : zeroOf X t = some z) : (zeroValue t).run X.P w = .ok z w := by
  obtain ⟨i, hi, hz, _⟩ := zeroOf_eq (ι := fun _ => none) h; exact run_zeroValue hi hz
theorem zeroOf_vr {t : TypeId} {z : Value} (h : zeroOf X t = some z) : VR ι z z := by
  obtain ⟨i, hi, hz, hv⟩ := zeroOf_eq h; exact hv

theorem cut_eq {cs l : List Value} {i n : Nat} (h : cut cs i n = some l) : i + n ≤ cs.length ∧ l = (cs.drop i).take n := by
  unfold cut at h
  cases hb : Nat.ble (i + n) cs.length <;> simp [hb] at h
  exact ⟨Nat.le_of_ble_eq_true hb, h.symm⟩
theorem splice_eq {cs l vs : List Value} {i : Nat} (h : splice cs i vs = some l) : i + vs.length ≤ cs.length ∧ l = cs.take i ++ (vs ++ cs.drop (i + vs.length)) := by
  unfold splice at h
  cases hb : Nat.ble (i + vs.length) cs.length <;> simp [hb] at h
  exact ⟨Nat.le_of_ble_eq_true hb, by simp [h]⟩

theorem VRs.splice {a a' b b' : List Value} (h : VRs ι a a') (k : VRs ι b b') (i : Nat) : VRs ι (a.take i ++ (b ++ a.drop (i + b.length))) (a'.take i ++ (b' ++ a'.drop (i + b'.length))) := by
  rw [k.length]; exact (h.take i).append (k.append (h.drop _))

/-- Behind a pointer to a row that can be read: its cells. -/
theorem row_read (I : Inv w0 ι H w) (R : RoOk X w0) {n off : Nat} {sp : Option Nat} {cs : List Value} (hr : rowAt X H n = some cs) {b o : Nat}
    (hp : (∃ B, ι n = some B ∧ b = B.block ∧ o = B.base + off) ∨ (n = FB + b ∧ o = off)) :
    ∃ C elem fz, w.heap[b]? = some (.cells C elem fz) ∧ ∀ (i : Nat) (v : Value), cs[off + i]? = some v → ∃ x, C[o + i]? = some x ∧ VR ι v x := by
  rcases hp with ⟨B, hB, rfl, rfl⟩ | ⟨rfl, rfl⟩
  · have hlt := I.lt hB
    have : Nat.ble FB n = false := by
      cases h : Nat.ble FB n with
      | false => rfl
      | true => exact absurd (Nat.le_of_ble_eq_true h) (by omega)
    simp only [rowAt, this, cond_false] at hr
    split at hr
    · rename_i cs' hg
      cases hr
      obtain ⟨B', x, hB', hx, hob⟩ := I.live n _ hg
      rw [hB] at hB'; cases hB'
      cases x <;> simp only [ObR] at hob
      rename_i C elem fz
      exact ⟨C, elem, fz, hx, fun i v hi => by obtain ⟨x, h1, h2⟩ := hob.2.2.1 _ v hi; exact ⟨x, by rw [Nat.add_assoc]; exact h1, h2⟩⟩
    · cases hr
  · have : Nat.ble FB (FB + b) = true := by simp
    simp only [rowAt, this, cond_true, Nat.add_sub_cancel_left] at hr
    obtain ⟨C, elem, fz, hb, hc⟩ := R b cs hr
    refine ⟨C, elem, fz, ?_, fun i v hi => ?_⟩
    · rw [I.old b (size_lt hb)]; exact hb
    · obtain ⟨x, h1, h2⟩ := hc _ v hi; exact ⟨x, h1, h2 ι⟩

theorem ptr_inv {n off : Nat} {v' : Value} (I : Inv w0 ι H w) (h : VR ι (.pointer (some ⟨n, off, none⟩)) v') :
    ∃ b o, v' = .pointer (some ⟨b, o, none⟩) ∧ ((∃ B, ι n = some B ∧ b = B.block ∧ o = B.base + off) ∨ (n = FB + b ∧ o = off)) := by
  cases h with
  | ptr h => exact ⟨_, _, rfl, .inl ⟨_, h, rfl, rfl⟩⟩
  | ptrF b off => exact ⟨_, _, rfl, .inr ⟨rfl, rfl⟩⟩

/-- n cells from a place on, read. -/
theorem load_row {C : Array Value} {elem : TypeId} {fz : Nat × Nat} {b o off n : Nat} {cs l : List Value} (hb : w.heap[b]? = some (.cells C elem fz)) (hc : ∀ (i : Nat) (v : Value), cs[off + i]? = some v → ∃ x, C[o + i]? = some x ∧ VR ι v x)
    (hl : cut cs off n = some l) : ∃ A, (loadCells ⟨b, o, none⟩ n).run X.P w = .ok A w ∧ VRs ι l A.toList := by
  obtain ⟨hle, rfl⟩ := cut_eq hl
  by_cases hn : n = 0
  · subst hn
    exact ⟨#[], by simp [loadCells, loadCellsFrom], by simp; exact .nil⟩
  · have hsz : o + n ≤ C.size := by
      obtain ⟨x, hx, _⟩ := hc (n - 1) cs[off + (n - 1)] (List.getElem?_eq_getElem (by omega))
      have := size_lt hx; omega
    refine ⟨_, run_loadCells hb n hsz, VRs.of_get ?_ fun i v hi => ?_⟩
    · simp; omega
    · have hin : i < n := by
        have : i < ((cs.drop off).take n).length := by
          rcases Nat.lt_or_ge i ((cs.drop off).take n).length with h' | h'
          · exact h'
          · simp [List.getElem?_eq_none h'] at hi
        simp at this; omega
      rw [List.getElem?_take, if_pos hin, List.getElem?_drop] at hi
      obtain ⟨x, hx, hv⟩ := hc i v hi
      refine ⟨x, ?_, hv⟩
      rw [Array.toList_extract, List.extract_eq_take_drop, List.getElem?_take, if_pos (by omega), List.getElem?_drop]
      simpa using hx

theorem loadA_ok (I : Inv w0 ι H w) (R : RoOk X w0) {t : TypeId} {a a' v : Value} (ha : VR ι a a') (h : loadA X H t a = some v) : ∃ v', (Instr.loadAt t a').run X.P w = .ok v' w ∧ VR ι v v' := by
  unfold loadA at h
  split at h
  · rename_i n off
    obtain ⟨b, o, rfl, hp⟩ := ptr_inv I ha
    simp only [Option.bind_eq_some_iff] at h
    obtain ⟨g, hg, h⟩ := h
    cases g
    · simp only [Option.bind_eq_some_iff] at h
      obtain ⟨cs, hr, hv⟩ := h
      obtain ⟨C, elem, fz, hb, hc⟩ := row_read I R (sp := none) hr hp
      obtain ⟨x, hx, hvr⟩ := hc 0 v (by simpa using hv)
      have hcell : w.cell? ⟨b, o, none⟩ = some x := by simpa [World.cell?, hb] using hx
      exact ⟨x, by simp [Instr.loadAt, Instr.sureAddr, loadVar, run_isAgg' hg, hcell], hvr⟩
    · simp only [Option.bind_eq_some_iff, Option.map_eq_some_iff] at h
      obtain ⟨s, hs, cs, hr, l, hl, rfl⟩ := h
      obtain ⟨C, elem, fz, hb, hc⟩ := row_read I R (sp := none) hr hp
      obtain ⟨A, hA, hvr⟩ := load_row (X := X) hb hc hl
      exact ⟨.agg A, by simp [Instr.loadAt, Instr.sureAddr, loadVar, run_isAgg' hg, run_sizeOf' hs, hA], .agg (by simpa using hvr)⟩
  · cases h

/-- An own row, and what lies behind its handle. -/
theorem own_inv (I : Inv w0 ι H w) {n : Nat} {cs : List Value} (h : ownRow H n = some cs) : H.get n = some (.row cs) ∧ ∃ B C elem fz, ι n = some B ∧ w.heap[B.block]? = some (.cells C elem fz) ∧ ObR ι B (.row cs) (.cells C elem fz) := by
  unfold ownRow at h
  cases hb : Nat.ble FB n <;> simp only [hb, cond_true, cond_false] at h
  · split at h
    · rename_i cs' hg
      cases h
      obtain ⟨B, x, hB, hx, hob⟩ := I.live n _ hg
      refine ⟨hg, B, ?_⟩
      cases x <;> simp only [ObR] at hob
      exact ⟨_, _, _, hB, hx, by simpa only [ObR] using hob⟩
    · cases h
  · cases h

/-- A row's cells are replaced by others, from a place on. -/
theorem row_splice {B : Blk} {C : Array Value} {elem : TypeId} {fz : Nat × Nat} {cs vs vs' l : List Value} {off : Nat} (hob : ObR ι B (.row cs) (.cells C elem fz)) (hv : VRs ι vs vs') (h : splice cs off vs = some l) :
    B.base + off + vs'.length ≤ C.size ∧ ObR ι B (.row l) (.cells (spliceC C (B.base + off) vs') elem fz) := by
  obtain ⟨hle, rfl⟩ := splice_eq h
  obtain ⟨h1, h2, h3, h4⟩ := hob
  have hlen := hv.length
  have hsz : B.base + off + vs'.length ≤ C.size := by omega
  refine ⟨hsz, by rw [spliceC_size hsz]; exact h1, by simp; omega, fun i v hi => ?_, fun i hi => h4 i (by rwa [spliceC_size hsz] at hi)⟩
  rw [splice_get hle] at hi
  rw [spliceC_get hsz]
  by_cases c1 : i < off
  · rw [if_pos c1] at hi; rw [if_pos (by omega)]; exact h3 i v hi
  · rw [if_neg c1] at hi; rw [if_neg (by omega)]
    by_cases c2 : i < off + vs.length
    · rw [if_pos c2] at hi; rw [if_pos (by omega), show B.base + i - (B.base + off) = i - off from by omega]; exact hv.get hi
    · rw [if_neg c2] at hi; rw [if_neg (by omega)]; exact h3 i v hi

theorem own_lt (I : Inv w0 ι H w) {n off b o : Nat} {cs : List Value} (h : ownRow H n = some cs) (hp : (∃ B, ι n = some B ∧ b = B.block ∧ o = B.base + off) ∨ (n = FB + b ∧ o = off)) :
    ∃ B, ι n = some B ∧ b = B.block ∧ o = B.base + off := by
  rcases hp with hp | ⟨rfl, rfl⟩
  · exact hp
  · have : Nat.ble FB (FB + b) = true := by simp
    simp [ownRow, this] at h

/-- Cells stored into an own row. -/
theorem store_row (I : Inv w0 ι H w) {n off : Nat} {cs vs vs' l : List Value} (hr : ownRow H n = some cs) {B : Blk} (hB : ι n = some B) (hv : VRs ι vs vs') (ho : vs.all oneCell = true) (h : splice cs off vs = some l) :
    ∃ w', (storeCells ⟨B.block, B.base + off, none⟩ vs').run X.P w = .ok () w' ∧ Inv w0 ι (H.set n (.row l)) w' ∧ Tran ι H w ι (H.set n (.row l)) w' := by
  obtain ⟨hg, B', C, elem, fz, hB', hx, hob⟩ := own_inv I hr
  rw [hB] at hB'; cases hB'
  obtain ⟨hsz, hob'⟩ := row_splice hob hv h
  refine ⟨_, run_storeCells vs' w C 0 hx (by simpa using hsz) hob.2.2.2 (by rw [hv.oneCell]; exact ho), ?_⟩
  exact I.setObj hg hB _ _ (by simpa using hob')

theorem storeA_ok (I : Inv w0 ι H w) {t : TypeId} {a a' v v' : Value} {H' : Hp} (ha : VR ι a a') (hv : VR ι v v') (h : storeA X H t a v = some H') :
    ∃ w', (Instr.storeAt t a' v').run X.P w = .ok () w' ∧ Inv w0 ι H' w' ∧ Tran ι H w ι H' w' := by
  unfold storeA at h
  split at h
  · rename_i n off
    obtain ⟨b, o, rfl, hp⟩ := ptr_inv I ha
    simp only [Option.bind_eq_some_iff] at h
    obtain ⟨s, hs, h⟩ := h
    cases hc : (Nat.beq v.cells.size s && v.cells.toList.all oneCell) <;> simp only [hc, cond_true, cond_false] at h
    · cases h
    · simp only [Option.bind_eq_some_iff, Option.map_eq_some_iff] at h
      obtain ⟨cs, hr, l, hl, rfl⟩ := h
      obtain ⟨B, hB, rfl, rfl⟩ := own_lt I hr hp
      simp only [Bool.and_eq_true] at hc
      obtain ⟨w', hrun, hI, hT⟩ := store_row (X := X) I hr hB hv.cells hc.2 hl
      refine ⟨w', ?_, hI, hT⟩
      have hsz : v'.cells.size = s := by rw [hv.cells_size]; exact Nat.eq_of_beq_eq_true hc.1
      simp [Instr.storeAt, Instr.sureAddr, storeVar, run_sizeOf' hs, hsz, hrun]
  · cases h

/-- A new row. -/
theorem alloc_row (I : Inv w0 ι H w) {cs cs' : List Value} (hv : VRs ι cs cs') {n : Nat} {H' : Hp} (ha : H.alloc (.row cs) = some (n, H')) (extra : List Value) (elem : TypeId) :
    ∃ ι', ι' n = some ⟨w.heap.size, 0, (cs' ++ extra).length⟩ ∧ Inv w0 ι' H' (pushW w (.cells (cs' ++ extra).toArray elem (0, 0))) ∧ Tran ι H w ι' H' (pushW w (.cells (cs' ++ extra).toArray elem (0, 0))) := by
  refine I.alloc ha ⟨w.heap.size, 0, (cs' ++ extra).length⟩ rfl _ fun ι' he _ => ⟨by simp, by simp [hv.length], fun i v hi => ?_, fun i _ h => by simp at h⟩
  obtain ⟨v', h1, h2⟩ := hv.get hi
  refine ⟨v', ?_, h2.mono he⟩
  have : i < cs'.length := by
    rcases Nat.lt_or_ge i cs'.length with h' | h'
    · exact h'
    · simp [List.getElem?_eq_none h'] at h1
  simp [List.getElem?_append_left this, h1]

theorem newRow_run (cs : Array Value) (elem : TypeId) : (Go.newRow elem cs).run X.P w = .ok ⟨w.heap.size, 0, none⟩ (pushW w (.cells cs elem (0, 0))) := by
  simp [Go.newRow, pushW]

theorem newRow'_ok (I : Inv w0 ι H w) {cs : List Value} {A : Array Value} (hv : VRs ι cs A.toList) {v : Value} {H' : Hp} (h : newRow' H cs = some (v, H')) (elem : TypeId) :
    ∃ ι' w' v', (Go.newRow elem A).run X.P w = .ok v' w' ∧ Inv w0 ι' H' w' ∧ Tran ι H w ι' H' w' ∧ VR ι' v (.pointer (some v')) := by
  simp only [newRow', Option.map_eq_some_iff] at h
  obtain ⟨⟨n, H2⟩, ha, he⟩ := h
  simp only [Prod.mk.injEq] at he
  obtain ⟨rfl, rfl⟩ := he
  obtain ⟨ι', hi, hI, hT⟩ := alloc_row I hv ha [] elem
  simp only [List.append_nil, Array.toArray_toList] at hi hI hT
  exact ⟨ι', _, _, newRow_run A elem, hI, hT, by simpa using VR.ptr (off := 0) hi⟩
end
end Go.Am
