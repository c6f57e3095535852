/- Regions that draw: heaps with fewer and with more objects; what allocations do. -/
import Derived.Test.YtmbiniafgdbbfaaGreatAmJ
set_option linter.unusedSimpArgs false
set_option linter.unusedVariables false
set_option linter.unusedVariables false
namespace Go.Am

section
variable {X : Cx} {w0 : World} {ι : Iota} {H : Hp} {w : World}

/-- Fewer objects. -/
theorem Inv.sub (I : Inv w0 ι H w) {H' : Hp} (hs : ∀ n o, H'.get n = some o → H.get n = some o) (hn : H.next ≤ H'.next) (hb : H'.next ≤ FB) : Inv w0 ι H' w :=
  ⟨fun n B h => let ⟨a, b, c⟩ := I.dom n B h; ⟨Nat.lt_of_lt_of_le a hn, b, c⟩, hb, fun n o h => I.live n o (hs n o h), fun n m o o' B C h1 h2 => I.inj n m o o' B C (hs n o h1) (hs m o' h2), I.old, I.size, I.os, I.tape, I.output⟩

/-- One object more, in a block of its own. -/
theorem Inv.add (I : Inv w0 ι H w) {n : Nat} {o : Ob} {B : Blk} {x : Obj} (hB : ι n = some B) (hx : w.heap[B.block]? = some x) (hob : ObR ι B o x) (hnew : ∀ m p C, H.get m = some p → ι m = some C → m ≠ n → C.block ≠ B.block) : Inv w0 ι (H.set n o) w := by
  have hlt := I.lt hB
  have hget : ∀ m, (H.set n o).get m = if m = n then some o else H.get m := Hp.get_set hlt o
  refine ⟨I.dom, I.next, fun m p hm => ?_, fun m k p q C D hm hk hc hd e => ?_, I.old, I.size, I.os, I.tape, I.output⟩
  · rw [hget] at hm
    by_cases e : m = n
    · subst e; rw [if_pos rfl] at hm; cases hm; exact ⟨B, x, hB, hx, hob⟩
    · rw [if_neg e] at hm; exact I.live m p hm
  · rw [hget] at hm hk
    by_cases e1 : m = n <;> by_cases e2 : k = n
    · rw [e1, e2]
    · subst e1; rw [if_neg e2] at hk; rw [hB] at hc; cases hc
      exact absurd e.symm (hnew k q D hk hd e2)
    · subst e2; rw [if_neg e1] at hm; rw [hB] at hd; cases hd
      exact absurd e (hnew m p C hm hc e1)
    · rw [if_neg e1] at hm; rw [if_neg e2] at hk; exact I.inj m k p q C D hm hk hc hd e

/-- A new block for a handle that was kept free. -/
theorem Inv.put (I : Inv w0 ι H w) {n : Nat} (hn : n < H.next) (h0 : ι n = none) (c : Nat) {o : Ob} {x : Obj} (hob : ∀ ι', Ext ι ι' → ι' n = some ⟨w.heap.size, 0, c⟩ → ObR ι' ⟨w.heap.size, 0, c⟩ o x) :
    ∃ ι', Ext ι ι' ∧ ι' n = some ⟨w.heap.size, 0, c⟩ ∧ (∀ m, m ≠ n → ι' m = ι m) ∧ Inv w0 ι' (H.set n o) (pushW w x) := by
  let ι' : Iota := fun m => if m = n then some ⟨w.heap.size, 0, c⟩ else ι m
  have hi : ι' n = some ⟨w.heap.size, 0, c⟩ := if_pos rfl
  have hne : ∀ m, m ≠ n → ι' m = ι m := fun m h => if_neg h
  have hext : Ext ι ι' := fun m C hc => by
    by_cases e : m = n
    · subst e; rw [h0] at hc; cases hc
    · rw [hne m e]; exact hc
  have hlt : n < FB := Nat.lt_of_lt_of_le hn I.next
  have hget : ∀ m, (H.set n o).get m = if m = n then some o else H.get m := Hp.get_set hlt o
  have hoth : ∀ b, b < w.heap.size → (w.heap.push x)[b]? = w.heap[b]? := fun b hb => by
    rw [Array.getElem?_push]; rw [if_neg (Nat.ne_of_lt hb)]
  refine ⟨ι', hext, hi, hne, ⟨fun m C hc => ?_, I.next, fun m p hm => ?_, fun m k p q C D hm hk hc hdd e => ?_, fun b hb => ?_, ?_, I.os, I.tape, I.output⟩⟩
  · have hsz : (w.heap.push x).size = w.heap.size + 1 := Array.size_push ..
    by_cases e : m = n
    · subst e; rw [hi] at hc; cases hc; simp only [pushW]; have := I.size; rw [hsz]; exact ⟨hn, by omega, this⟩
    · rw [hne m e] at hc; have := I.dom m C hc; simp only [pushW]; rw [hsz]; exact ⟨this.1, by omega, this.2.2⟩
  · rw [hget] at hm
    by_cases e : m = n
    · subst e; rw [if_pos rfl] at hm; cases hm
      exact ⟨_, x, hi, Array.getElem?_push_size, hob ι' hext hi⟩
    · rw [if_neg e] at hm
      obtain ⟨C, y, hc, hy, hb⟩ := I.live m p hm
      exact ⟨C, y, by rw [hne m e]; exact hc, (hoth _ (I.dom m C hc).2.1).trans hy, hb.mono hext⟩
  · rw [hget] at hm hk
    by_cases e1 : m = n <;> by_cases e2 : k = n
    · rw [e1, e2]
    · rw [hne k e2] at hdd; subst e1; rw [hi] at hc; cases hc
      have := (I.dom k D hdd).2.1; simp only at e; omega
    · rw [hne m e1] at hc; subst e2; rw [hi] at hdd; cases hdd
      have := (I.dom m C hc).2.1; simp only at e; omega
    · rw [if_neg e1] at hm; rw [if_neg e2] at hk; rw [hne m e1] at hc; rw [hne k e2] at hdd
      exact I.inj m k p q C D hm hk hc hdd e
  · exact (hoth b (Nat.lt_of_lt_of_le hb I.size)).trans (I.old b hb)
  · have hsz : (w.heap.push x).size = w.heap.size + 1 := Array.size_push ..
    simp only [pushW]; rw [hsz]; have := I.size; omega

/-- What an allocation does. -/
theorem allocA_ok {o : Oper} {ρ ρ' : Operand → Value} (hρ : ∀ x ∈ o.op.operands.toList, VR ι (ρ x) (ρ' x)) {ob : Ob} {mk : Nat → Value} (h : allocA X o.op ρ = some (ob, mk)) :
    ∃ x v' c, (execOp ρ' o).run X.P w = .ok (.value v') (pushW w x) ∧ ∀ ι' n, Ext ι ι' → ι' n = some ⟨w.heap.size, 0, c⟩ → ObR ι' ⟨w.heap.size, 0, c⟩ ob x ∧ VR ι' (mk n) v' := by
  have row : ∀ (cs : List Value) (A : Array Value) (elem : TypeId), VRs ι cs A.toList → ∀ ι', Ext ι ι' → ObR ι' ⟨w.heap.size, 0, A.size⟩ (.row cs) (.cells A elem (0, 0)) := by
    intro cs A elem hv ι' he
    refine ⟨by simp, by have := hv.length; simp at this; simp [this], fun i v hi => ?_, fun i _ h => by simp at h⟩
    obtain ⟨v', h1, h2⟩ := hv.get hi
    exact ⟨v', by simpa using h1, h2.mono he⟩
  unfold allocA at h
  split at h
  · rename_i t e
    simp only [Option.map_eq_some_iff, Prod.mk.injEq] at h
    obtain ⟨z, hz, rfl, rfl⟩ := h
    refine ⟨.cells z.cells t (0, 0), .pointer (some ⟨w.heap.size, 0, none⟩), z.cells.size, ?_, fun ι' n he hi => ⟨row _ _ _ (zeroOf_vr hz).cells ι' he, by simpa using VR.ptr (off := 0) hi⟩⟩
    simp [execOp, e, Instr.alloc, run_zeroOf hz, newVar, newRow_run]
  · rename_i t x e
    simp only [Option.some.injEq, Prod.mk.injEq] at h
    obtain ⟨rfl, rfl⟩ := h
    have hx := hρ x (by simp [e, Op.operands])
    refine ⟨.cells (ρ' x).cells t (0, 0), .pointer (some ⟨w.heap.size, 0, none⟩), (ρ' x).cells.size, ?_, fun ι' n he hi => ⟨row _ _ _ hx.cells ι' he, by simpa using VR.ptr (off := 0) hi⟩⟩
    simp [execOp, e, Instr.box, newVar, newRow_run]
  · rename_i t len ps e
    simp only [Option.map_eq_some_iff, Prod.mk.injEq] at h
    obtain ⟨cs, hb, rfl, rfl⟩ := h
    unfold buildRow at hb
    split at hb
    · rename_i el hu
      simp only [Option.bind_eq_some_iff] at hb
      obtain ⟨s, hs, z, hz, hb⟩ := hb
      obtain ⟨hc, hf⟩ := bif_some hb
      simp only [Bool.and_eq_true] at hc
      have hle := Nat.le_of_ble_eq_true hc.1
      have hzs := Nat.eq_of_beq_eq_true hc.2
      subst hzs
      have hp : ∀ x ∈ ps.toList.map (·.2), VR ι (ρ x) (ρ' x) := fun x hx => hρ x (by rw [e]; simpa [Op.operands] using hx)
      obtain ⟨L, hL, hvr⟩ := fill_ok (ι := ι) (fun i => some (i * z.cells.size, z.cells.size)) _ (ps.map fun (i, x) => (i, ρ' x)).toList _ cs (repeatL z.cells.toList len).toArray (by simp) (parts_vr hp) (by simpa using repeat_vr (zeroOf_vr hz) len) hf
      refine ⟨.cells L el (0, 0), .slice (some ⟨w.heap.size, 0, none⟩) len len, L.size, ?_, fun ι' n he hi => ⟨row _ _ _ hvr ι' he, by simpa using VR.slE (off := 0) hi len len⟩⟩
      have hcap : ¬ (len * z.cells.size > 2 ^ 24) := by omega
      have hmain : (Instr.buildSlice t len (ps.map fun (i, x) => (i, ρ' x))).run X.P w = .ok (.slice (some ⟨w.heap.size, 0, none⟩) len len) (pushW w (.cells L el (0, 0))) := by
        simp only [Instr.buildSlice, Sem.run_bind, run_underlying' hu, Result.andThen_ok, run_sizeOf' hs, hcap, if_false]
        by_cases h0 : len * z.cells.size = 0
        · simp only [h0, if_true, Sem.run_pure, Result.andThen_ok]
          have hr0 : (repeatL z.cells.toList len).toArray = #[] := by
            apply Array.eq_empty_of_size_eq_zero; simpa [repeat_len] using h0
          rw [hr0] at hL
          have e0 : ((Array.range 0).map fun x => (#[] : Array Value)[x % (#[] : Array Value).size]!) = #[] := by simp
          simp only [e0, hL, newRow_run, Sem.run_bind, Result.andThen_ok, Sem.run_pure]
        · simp only [h0, if_false, Sem.run_bind, run_zeroOf hz, Result.andThen_ok, Sem.run_pure, zeros_eq, hL, newRow_run]
      simp [execOp, e, hmain]
    · cases hb
  · rename_i t e
    simp only [Option.some.injEq, Prod.mk.injEq] at h
    obtain ⟨rfl, rfl⟩ := h
    refine ⟨.map #[] 0, .map (some w.heap.size), 0, ?_, fun ι' n he hi => ⟨⟨rfl, .nil⟩, .map hi⟩⟩
    simp only [execOp, e, Instr.makeMap, Option.map_none, Sem.run_bind]
    rfl
  · cases h
end
end Go.Am
