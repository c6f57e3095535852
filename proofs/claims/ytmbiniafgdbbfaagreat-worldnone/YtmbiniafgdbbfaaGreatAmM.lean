/- The model's memory operations, run. -/
import Derived.Test.YtmbiniafgdbbfaaGreatAmI
import Derived.Laws.Sem
import Derived.Laws.Entries
set_option linter.unusedSimpArgs false
set_option linter.unusedVariables false
namespace Go.Am

def putW (w : World) (b : Nat) (x : Obj) : World := { w with heap := w.heap.setIfInBounds b x }
def pushW (w : World) (x : Obj) : World := { w with heap := w.heap.push x }

theorem putW_putW (w : World) (b : Nat) (x y : Obj) : putW (putW w b x) b y = putW w b y := by simp [putW]
theorem putW_get {w : World} {b : Nat} {x y : Obj} (h : w.heap[b]? = some y) : (putW w b x).heap[b]? = some x := by
  have : b < w.heap.size := by
    rcases Nat.lt_or_ge b w.heap.size with h' | h'
    · exact h'
    · simp [Array.getElem?_eq_none h'] at h
  simp [putW, this]
theorem putW_self {w : World} {b : Nat} {x : Obj} (h : w.heap[b]? = some x) : putW w b x = w := by
  unfold putW
  have : w.heap.setIfInBounds b x = w.heap := by
    apply Array.ext_getElem?
    intro i
    by_cases e : b = i
    · subst e
      have hb : b < w.heap.size := by
        rcases Nat.lt_or_ge b w.heap.size with h' | h'
        · exact h'
        · simp [Array.getElem?_eq_none h'] at h
      have h' : w.heap[b] = x := by simpa [hb] using h
      simp [hb, h']
    · simp [e]
  rw [this]

theorem add_off (b off i : Nat) : (⟨b, off, none⟩ : Addr).add i = ⟨b, off + i, none⟩ := by
  unfold Addr.add; split
  · simp_all
  · rfl

section
variable {P : Program} {w : World}
theorem run_typeInfo {t : TypeId} {i : TypeInfo} (h : P.info? t = some i) : (typeInfo t).run P w = .ok i w := by simp [typeInfo, h]
theorem run_underlying' {t : TypeId} {d : TypeDesc} (h : P.underlying t = some d) : (underlying t).run P w = .ok d w := by simp [underlying, h]
theorem run_sizeOf {t : TypeId} {i : TypeInfo} (h : P.info? t = some i) : (sizeOf t).run P w = .ok i.size w := by simp [Go.sizeOf, run_typeInfo h]
theorem run_zeroValue {t : TypeId} {i : TypeInfo} {z : Value} (h : P.info? t = some i) (hz : i.zero = some z) : (zeroValue t).run P w = .ok z w := by simp [zeroValue, run_typeInfo h, hz]

theorem run_loadCellsFrom {C : Array Value} {elem : TypeId} {fz : Nat × Nat} {b off : Nat} (hb : w.heap[b]? = some (.cells C elem fz)) :
    ∀ (n i : Nat) (acc : Array Value), off + i + n ≤ C.size → (loadCellsFrom ⟨b, off, none⟩ i n acc).run P w = .ok (acc ++ C.extract (off + i) (off + i + n)) w
  | 0, i, acc, h => by
    simp [loadCellsFrom]; omega
  | n + 1, i, acc, h => by
    have hlt : off + i < C.size := by omega
    have hc : w.cell? ⟨b, off + i, none⟩ = some C[off + i] := by simp [World.cell?, hb, hlt]
    simp only [loadCellsFrom, Sem.run_bind, run_load, add_off, hc, Result.andThen_ok]
    rw [run_loadCellsFrom hb n (i + 1) _ (by omega)]
    congr 1
    apply Array.ext'
    have : C.toList.drop (off + i) = C[off + i] :: C.toList.drop (off + i + 1) := by
      rw [List.drop_eq_getElem_cons (by simpa using hlt)]; simp
    simp only [Array.toList_append, Array.toList_push, Array.toList_extract, List.append_assoc, List.extract_eq_take_drop, this]
    rw [show off + i + (n + 1) - (off + i) = n + 1 from by omega, show off + (i + 1) + n - (off + (i + 1)) = n from by omega, List.take_succ_cons, show off + (i + 1) = off + i + 1 from by omega]
    simp
theorem run_loadCells {C : Array Value} {elem : TypeId} {fz : Nat × Nat} {b off : Nat} (hb : w.heap[b]? = some (.cells C elem fz)) (n : Nat) (h : off + n ≤ C.size) :
    (loadCells ⟨b, off, none⟩ n).run P w = .ok (C.extract off (off + n)) w := by
  have := run_loadCellsFrom (P := P) hb n 0 #[] (by omega)
  simpa [loadCells] using this

theorem setCell_eq {C : Array Value} {elem : TypeId} {fz : Nat × Nat} {b i : Nat} (hb : w.heap[b]? = some (.cells C elem fz)) (v : Value) :
    w.setCell ⟨b, i, none⟩ v = putW w b (.cells (C.setIfInBounds i v) elem fz) := by
  unfold World.setCell putW
  congr 1
  apply Array.ext_getElem?
  intro j
  by_cases e : b = j
  · subst e
    have hlt : b < w.heap.size := by
      rcases Nat.lt_or_ge b w.heap.size with h' | h'
      · exact h'
      · simp [Array.getElem?_eq_none h'] at hb
    have hb' : w.heap[b] = .cells C elem fz := by simpa [hlt] using hb
    rw [Array.getElem?_eq_getElem (by simpa using hlt), Array.getElem_modify_self, hb']
    simp [hlt]
  · rw [Array.getElem?_modify, if_neg e]; simp [e]

/-- Cells with others from a place on. -/
def spliceC (C : Array Value) (i : Nat) (vs : List Value) : Array Value := (C.toList.take i ++ (vs ++ C.toList.drop (i + vs.length))).toArray

theorem splice_get {l vs : List Value} {i j : Nat} (h : i + vs.length ≤ l.length) :
    (l.take i ++ (vs ++ l.drop (i + vs.length)))[j]? = if j < i then l[j]? else if j < i + vs.length then vs[j - i]? else l[j]? := by
  have hi : (l.take i).length = i := by simp; omega
  by_cases h1 : j < i
  · rw [if_pos h1, List.getElem?_append_left (by omega), List.getElem?_take, if_pos h1]
  · rw [if_neg h1, List.getElem?_append_right (by omega), hi]
    by_cases h2 : j < i + vs.length
    · rw [if_pos h2, List.getElem?_append_left (by omega)]
    · rw [if_neg h2, List.getElem?_append_right (by omega), List.getElem?_drop]
      congr 1; omega
theorem spliceC_get {C : Array Value} {vs : List Value} {i j : Nat} (h : i + vs.length ≤ C.size) :
    (spliceC C i vs)[j]? = if j < i then C[j]? else if j < i + vs.length then vs[j - i]? else C[j]? := by
  have := splice_get (l := C.toList) (vs := vs) (i := i) (j := j) (by simpa using h)
  simpa [spliceC] using this
theorem spliceC_size {C : Array Value} {i : Nat} {vs : List Value} (h : i + vs.length ≤ C.size) : (spliceC C i vs).size = C.size := by
  simp [spliceC]; omega

theorem run_storeCells {elem : TypeId} {fz : Nat × Nat} {b off : Nat} : ∀ (vs : List Value) (w : World) (C : Array Value) (i : Nat), w.heap[b]? = some (.cells C elem fz) → off + i + vs.length ≤ C.size →
    (∀ j, j < C.size → ¬ (fz.1 ≤ j ∧ j < fz.2)) → vs.all oneCell = true →
    (storeCells ⟨b, off, none⟩ vs i).run P w = .ok () (putW w b (.cells (spliceC C (off + i) vs) elem fz))
  | [], w, C, i, hb, h, hf, ho => by
    simp [storeCells, spliceC, putW_self hb]
  | v :: vs, w, C, i, hb, h, hf, ho => by
    simp only [List.length_cons] at h
    have hlt : off + i < C.size := by omega
    have hc : w.cell? ⟨b, off + i, none⟩ = some C[off + i] := by simp [World.cell?, hb, hlt]
    have hfr : w.frozen? ⟨b, off + i, none⟩ = false := by
      have := hf (off + i) hlt
      simp only [World.frozen?, hb]
      simpa using this
    have hv : v.oneCell' = true := by
      have : oneCell v = true := by simp at ho; exact ho.1
      cases v <;> simp_all [oneCell, Value.oneCell']
    simp only [storeCells, Sem.run_bind, add_off, run_store P w _ v _ hv, hc, hfr, Bool.false_eq_true, if_false, Result.andThen_ok, setCell_eq hb]
    rw [run_storeCells vs _ (C.setIfInBounds (off + i) v) (i + 1) (putW_get hb) (by simp; omega) (by simpa using hf) (by simp at ho; simpa using ho.2), putW_putW]
    congr 3
    apply Array.ext_getElem?
    intro j
    rw [spliceC_get (by simp; omega), spliceC_get (by simp; omega)]
    simp only [List.length_cons, Array.getElem?_setIfInBounds]
    by_cases h1 : j < off + i
    · rw [if_pos (by omega), if_pos h1, if_neg (by omega)]
    · by_cases h2 : j = off + i
      · subst h2
        simp [hlt, show off + i < off + (i + 1) from by omega, show ¬ off + i < off + i from by omega]
      · have h4 : ¬ (off + i = j) := fun e => h2 e.symm
        have h5 : ¬ (j < off + (i + 1)) := by omega
        simp only [h4, h5, h1, if_false]
        by_cases h3 : j < off + i + (vs.length + 1)
        · rw [if_pos (by omega), if_pos h3, show j - (off + i) = (j - (off + (i + 1))) + 1 from by omega]; simp
        · rw [if_neg (by omega), if_neg h3]
end
end Go.Am
