/- The abstract machine's operations are the model's: all of them. -/
import Derived.Test.YtmbiniafgdbbfaaGreatAmZc
set_option linter.unusedSimpArgs false
set_option linter.unusedVariables false
set_option linter.unusedVariables false
namespace Go.Am
section
variable {X : Cx} {w0 : World} {ι : Iota} {H : Hp} {w : World}

theorem Does.pure1 {o : Oper} {ρ' : Operand → Value} {s : Sem Value} {v : Value} (I : Inv w0 ι H w) (he : (execOp ρ' o).run X.P w = ((s.run X.P w).andThen fun a w' => .ok (.value a) w')) (h : ∃ v', s.run X.P w = .ok v' w ∧ VR ι v v') : Does X.P w0 ι H w (execOp ρ' o) v H := by
  obtain ⟨v', hr, hv⟩ := h
  exact ⟨ι, w, v', .inl (by rw [he, hr]; rfl), I, Tran.refl _ _ _, hv⟩
theorem Does.val1 {o : Oper} {ρ' : Operand → Value} {s : Sem Value} {v : Value} {H' : Hp} (he : (execOp ρ' o).run X.P w = ((s.run X.P w).andThen fun a w' => .ok (.value a) w')) (h : ∃ ι' w' v', s.run X.P w = .ok v' w' ∧ Inv w0 ι' H' w' ∧ Tran ι H w ι' H' w' ∧ VR ι' v v') : Does X.P w0 ι H w (execOp ρ' o) v H' := by
  obtain ⟨ι', w', v', hr, hI, hT, hv⟩ := h
  exact ⟨ι', w', v', .inl (by rw [he, hr]; rfl), hI, hT, hv⟩
theorem Does.unit1 {o : Oper} {ρ' : Operand → Value} {s : Sem Unit} {H' : Hp} (he : (execOp ρ' o).run X.P w = ((s.run X.P w).andThen fun _ w' => .ok .skip w')) (h : ∃ w', s.run X.P w = .ok () w' ∧ Inv w0 ι H' w' ∧ Tran ι H w ι H' w') : Does X.P w0 ι H w (execOp ρ' o) undef H' := by
  obtain ⟨w', hr, hI, hT⟩ := h
  exact ⟨ι, w', undef, .inr ⟨by rw [he, hr]; rfl, rfl⟩, hI, hT, .undef⟩

theorem opR_map {ρ ρ' : Operand → Value} {x : Option Operand} (h : ∀ y ∈ x.toList, VR ι (ρ y) (ρ' y)) : opR ι (x.map ρ) (x.map ρ') := by
  cases x with
  | none => trivial
  | some y => exact h y (by simp)

theorem newMap_ok (I : Inv w0 ι H w) {v : Value} {H' : Hp} (h : ((H.alloc (.map [] 0)).map fun (n, H) => (Value.map (some n), H)) = some (v, H')) :
    ∃ ι' w' v', (do pure (Value.map (some (← newObj (.map #[] 0)))) : Sem Value).run X.P w = .ok v' w' ∧ Inv w0 ι' H' w' ∧ Tran ι H w ι' H' w' ∧ VR ι' v v' := by
  simp only [Option.map_eq_some_iff, Prod.mk.injEq] at h
  obtain ⟨⟨n, H2⟩, ha, rfl, rfl⟩ := h
  obtain ⟨ι', hi, hI, hT⟩ := I.alloc ha ⟨w.heap.size, 0, 0⟩ rfl (.map #[] 0) fun ι' _ _ => ⟨rfl, .nil⟩
  exact ⟨ι', _, .map (some w.heap.size), rfl, hI, hT, .map hi⟩

theorem newVar_ok (I : Inv w0 ι H w) {z z' : Value} (hv : VR ι z z') {v : Value} {H' : Hp} (h : newRow' H z.cells.toList = some (v, H')) (elem : TypeId) :
    ∃ ι' w' v', (do pure (Value.pointer (some (← newVar elem z'))) : Sem Value).run X.P w = .ok v' w' ∧ Inv w0 ι' H' w' ∧ Tran ι H w ι' H' w' ∧ VR ι' v v' := by
  obtain ⟨ι', w', v', hr, hI, hT, hv⟩ := newRow'_ok (X := X) I (A := z'.cells) hv.cells h elem
  exact ⟨ι', w', .pointer (some v'), by simp [newVar, hr], hI, hT, hv⟩

theorem bif_some {α : Type} {b : Bool} {s : Option α} {r : α} (h : (bif b then s else none) = some r) : b = true ∧ s = some r := by
  cases b
  · cases h
  · exact ⟨rfl, h⟩

set_option maxHeartbeats 4000000 in
theorem aop_ok (I : Inv w0 ι H w) (R : RoOk X w0) {o : Oper} {ρ ρ' : Operand → Value} (hρ : ∀ x ∈ o.op.operands.toList, VR ι (ρ x) (ρ' x)) {v : Value} {H' : Hp} (h : aop X o ρ H = some (v, H')) :
    Does X.P w0 ι H w (execOp ρ' o) v H' := by
  have one : ∀ {s : Option Value}, (s.map fun v => (v, H)) = some (v, H') → s = some v ∧ H' = H := by
    intro s h; simp only [Option.map_eq_some_iff, Prod.mk.injEq] at h; obtain ⟨a, h1, rfl, rfl⟩ := h; exact ⟨h1, rfl⟩
  have uni : ∀ {s : Option Hp}, (s.map fun H => (undef, H)) = some (v, H') → s = some H' ∧ v = undef := by
    intro s h; simp only [Option.map_eq_some_iff, Prod.mk.injEq] at h; obtain ⟨a, h1, rfl, rfl⟩ := h; exact ⟨h1, rfl⟩
  unfold aop at h
  split at h
  case h_1 x e => -- move
    simp only [Option.some.injEq, Prod.mk.injEq] at h; obtain ⟨rfl, rfl⟩ := h
    exact Does.same I (by simp [execOp, e]) (hρ x (by simp [e, Op.operands]))
  case h_2 x e =>
    simp only [Option.some.injEq, Prod.mk.injEq] at h; obtain ⟨rfl, rfl⟩ := h
    exact Does.same I (by simp [execOp, e]) (hρ x (by simp [e, Op.operands]))
  case h_3 c a b e =>
    have hc := hρ c (by simp [e, Op.operands]); have ha := hρ a (by simp [e, Op.operands]); have hb := hρ b (by simp [e, Op.operands])
    split at h
    · rename_i t ht
      rw [ht] at hc
      have hc' : ρ' c = .bool t := by generalize ρ' c = y at hc; cases hc; rfl
      simp only [Option.some.injEq, Prod.mk.injEq] at h; obtain ⟨rfl, rfl⟩ := h
      refine Does.same I (v' := if t = true then ρ' a else ρ' b) (by simp [execOp, e, hc', asBool]) ?_
      cases t <;> simp [ha, hb]
    · cases h
  case h_4 t e =>
    simp only [Option.bind_eq_some_iff] at h
    obtain ⟨z, hz, h⟩ := h
    exact Does.val1 (s := Instr.alloc t true (.tuple #[])) (by simp [execOp, e]) (by
      obtain ⟨ι', w', v', hr, r⟩ := newVar_ok (X := X) I (zeroOf_vr hz) h t
      exact ⟨ι', w', v', by simpa [Instr.alloc, run_zeroOf hz] using hr, r⟩)
  case h_5 t x e =>
    have hx := hρ x (by simp [e, Op.operands])
    exact Does.val1 (s := Instr.box t (ρ' x)) (by simp [execOp, e]) (newVar_ok (X := X) I hx h t)
  case h_6 t ps e =>
    obtain ⟨h1, rfl⟩ := one h
    exact Does.pure1 (s := Instr.build t (ps.map fun (i, x) => (i, ρ' x))) I (by simp [execOp, e]) (buildA_ok (ρ := ρ) (fun x hx => hρ x (by rw [e]; simpa [Op.operands] using hx)) h1)
  case h_7 t len ps e =>
    exact Does.val1 (s := Instr.buildSlice t len (ps.map fun (i, x) => (i, ρ' x))) (by simp [execOp, e]) (buildSliceA_ok (ρ := ρ) I (fun x hx => hρ x (by rw [e]; simpa [Op.operands] using hx)) h)
  case h_8 t a e =>
    obtain ⟨h1, rfl⟩ := one h
    exact Does.pure1 (s := Instr.loadAt t (ρ' a)) I (by simp [execOp, e]) (loadA_ok I R (hρ a (by simp [e, Op.operands])) h1)
  case h_9 t a x e =>
    obtain ⟨h1, rfl⟩ := uni h
    exact Does.unit1 (s := Instr.storeAt t (ρ' a) (ρ' x)) (by simp [execOp, e]) (storeA_ok I (hρ a (by simp [e, Op.operands])) (hρ x (by simp [e, Op.operands])) h1)
  case h_10 x e =>
    obtain ⟨h1, rfl⟩ := one h
    obtain ⟨hr, hv⟩ := nilCheckA_ok (X := X) (w := w) e (ρ' := ρ') rfl (hρ x (by simp [e, Op.operands])) h1
    exact Does.same I hr hv
  case h_11 op t x y q e =>
    have hx := hρ x (by simp [e, Op.operands]); have hy := hρ y (by simp [e, Op.operands])
    obtain ⟨hg, h⟩ := bif_some h
    obtain ⟨h1, rfl⟩ := one h
    have hgr := guard_ok (X := X) (w := w) (op := op) (t := t) (x := x) (y := y) hx hy hg
    exact Does.pure1 (s := binOp op t (ρ' x) (ρ' y)) I (by simp [execOp, e, hgr]) (binA_ok I hx hy h1)
  case h_12 op t x e =>
    obtain ⟨h1, rfl⟩ := one h
    exact Does.pure1 (s := Op.unary op (ρ' x)) I (by simp [execOp, e]) (unA_ok (hρ x (by simp [e, Op.operands])) h1)
  case h_13 s d x e =>
    exact Does.val1 (s := convert s d (ρ' x)) (by simp [execOp, e]) (convertA_ok I R (hρ x (by simp [e, Op.operands])) h)
  case h_14 t x e =>
    obtain ⟨hn, h⟩ := bif_some h
    simp only [Option.some.injEq, Prod.mk.injEq] at h; obtain ⟨rfl, rfl⟩ := h
    refine Does.pure1 (s := Instr.makeInterface t (ρ' x)) I (by simp [execOp, e]) ⟨.iface t (ρ' x), ?_, .iface t (hρ x (by simp [e, Op.operands]))⟩
    simp only [notIface] at hn
    split at hn
    · cases hn
    · rename_i d hd hu
      simp only [Instr.makeInterface, Sem.run_bind, run_underlying' hu, Result.andThen_ok, Sem.run_pure]
    · cases hn
  case h_15 fn first cap e =>
    split at h
    · rename_i f
      simp only [Option.some.injEq, Prod.mk.injEq] at h; obtain ⟨rfl, rfl⟩ := h
      refine Does.pure1 (s := Instr.makeFunc (.func f) (first.map ρ') (cap.map ρ')) I (by simp [execOp, e]) ⟨_, rfl, .fn f ?_ ?_⟩
      · simp only [Array.toList_map]; exact VRs.map fun x hx => hρ x (by simp [e, Op.operands] at hx ⊢; exact .inl hx)
      · simp only [Array.toList_map]; exact VRs.map fun x hx => hρ x (by simp [e, Op.operands] at hx ⊢; exact .inr hx)
    · cases h
  case h_16 t r e =>
    refine Does.val1 (s := Instr.makeMap t (r.map ρ')) (by simp [execOp, e]) ?_
    split at h
    · obtain ⟨ι', w', v', hr, q⟩ := newMap_ok (X := X) I h
      exact ⟨ι', w', v', by simpa [Instr.makeMap] using hr, q⟩
    · rename_i x
      have hx := hρ x (by simp [e, Op.operands])
      split at h
      · rename_i k q n kk hu hm
        rw [hm] at hx
        have hx' : ρ' x = .int n kk := by generalize ρ' x = y at hx; cases hx; rfl
        obtain ⟨ι', w', v', hr, q⟩ := newMap_ok (X := X) I h
        exact ⟨ι', w', v', by simpa [Instr.makeMap, run_underlying' hu, hx', asInt, asIntOf] using hr, q⟩
      · cases h
  case h_17 t l c e =>
    exact Does.val1 (s := Instr.makeSlice t (ρ' l) (ρ' c)) (by simp [execOp, e]) (makeSliceA_ok I (hρ l (by simp [e, Op.operands])) (hρ c (by simp [e, Op.operands])) h)
  case h_18 t x lo hi mx e =>
    obtain ⟨h1, rfl⟩ := one h
    exact Does.pure1 (s := Instr.sliceAt t (ρ' x) (lo.map ρ') (hi.map ρ') (mx.map ρ')) I (by simp [execOp, e]) (sliceA_ok I (hρ x (by simp [e, Op.operands]))
      (opR_map fun y hy => hρ y (by simp [e, Op.operands] at hy ⊢; simp [hy])) (opR_map fun y hy => hρ y (by simp [e, Op.operands] at hy ⊢; simp [hy])) (opR_map fun y hy => hρ y (by simp [e, Op.operands] at hy ⊢; simp [hy])) h1)
  case h_19 t x f e =>
    obtain ⟨h1, rfl⟩ := one h
    exact Does.pure1 (s := Instr.fieldAt t (ρ' x) f) I (by simp [execOp, e]) (fieldAddrA_ok I (hρ x (by simp [e, Op.operands])) h1)
  case h_20 t x f e =>
    obtain ⟨h1, rfl⟩ := one h
    exact Does.pure1 (s := Instr.field t (ρ' x) f) I (by simp [execOp, e]) (fieldA_ok (hρ x (by simp [e, Op.operands])) h1)
  case h_21 t x i e =>
    obtain ⟨h1, rfl⟩ := one h
    exact Does.pure1 (s := Instr.indexAt t (ρ' x) (ρ' i)) I (by simp [execOp, e]) (indexAddrA_ok (hρ x (by simp [e, Op.operands])) (hρ i (by simp [e, Op.operands])) h1)
  case h_22 t x i e =>
    obtain ⟨h1, rfl⟩ := one h
    exact Does.pure1 (s := Instr.index t (ρ' x) (ρ' i)) I (by simp [execOp, e]) (indexA_ok (hρ x (by simp [e, Op.operands])) (hρ i (by simp [e, Op.operands])) h1)
  case h_23 t m k ok e =>
    obtain ⟨h1, rfl⟩ := one h
    exact Does.pure1 (s := Instr.lookup t (ρ' m) (ρ' k) ok) I (by simp [execOp, e]) (lookupA_ok I (hρ m (by simp [e, Op.operands])) (hρ k (by simp [e, Op.operands])) h1)
  case h_24 t m k x e =>
    obtain ⟨h1, rfl⟩ := uni h
    exact Does.unit1 (s := Instr.mapUpdate t (ρ' m) (ρ' k) (ρ' x)) (by simp [execOp, e]) (mapUpdateA_ok I (hρ m (by simp [e, Op.operands])) (hρ k (by simp [e, Op.operands])) (hρ x (by simp [e, Op.operands])) h1)
  case h_25 t m k x e =>
    obtain ⟨h1, rfl⟩ := uni h
    exact Does.unit1 (s := Instr.mapUpdate t (ρ' m) (ρ' k) (ρ' x)) (by simp [execOp, e]) (mapUpdateA_ok I (hρ m (by simp [e, Op.operands])) (hρ k (by simp [e, Op.operands])) (hρ x (by simp [e, Op.operands])) h1)
  case h_26 t m k e =>
    refine Does.val1 (s := Instr.mapEntry t (ρ' m) (ρ' k)) (by simp [execOp, e]) ?_
    obtain ⟨w', v', hr, q⟩ := mapEntryA_ok I (hρ m (by simp [e, Op.operands])) (hρ k (by simp [e, Op.operands])) h
    exact ⟨ι, w', v', hr, q⟩
  case h_27 t m s x e =>
    obtain ⟨h1, rfl⟩ := uni h
    exact Does.unit1 (s := Instr.entryStore t (ρ' m) (ρ' s) (ρ' x)) (by simp [execOp, e]) (entryStoreA_ok I (hρ m (by simp [e, Op.operands])) (hρ s (by simp [e, Op.operands])) (hρ x (by simp [e, Op.operands])) h1)
  case h_28 t x e =>
    exact Does.val1 (s := Instr.range t (ρ' x)) (by simp [execOp, e]) (rangeA_ok I (hρ x (by simp [e, Op.operands])) h)
  case h_29 it s e =>
    refine Does.val1 (s := Instr.next (ρ' it) s o.type) (by simp [execOp, e]) ?_
    obtain ⟨w', v', hr, q⟩ := nextA_ok (X := X) (t := o.type) I (hρ it (by simp [e, Op.operands])) h
    exact ⟨ι, w', v', hr, q⟩
  case h_30 it e =>
    obtain ⟨h1, rfl⟩ := one h
    exact Does.pure1 (s := Instr.entry (ρ' it)) I (by simp [execOp, e]) (entryA_ok I (hρ it (by simp [e, Op.operands])) h1)
  case h_31 x xt t ok e =>
    obtain ⟨h1, rfl⟩ := one h
    exact Does.pure1 (s := Instr.typeAssert (ρ' x) xt t ok) I (by simp [execOp, e]) (typeAssertA_ok (hρ x (by simp [e, Op.operands])) h1)
  case h_32 t i e =>
    have ht := hρ t (by simp [e, Op.operands])
    split at h
    · rename_i vs hvs
      obtain ⟨h1, rfl⟩ := one h
      rw [hvs] at ht
      refine Does.pure1 (s := Instr.extract (ρ' t) i) I (by simp [execOp, e]) ?_
      generalize ρ' t = y at ht
      cases ht with
      | tuple hl =>
        obtain ⟨v', hg, hv⟩ := hl.get h1
        have hg' := hg
        rw [Array.getElem?_toList] at hg'
        exact ⟨v', by simp [Instr.extract, hg'], hv⟩
    · cases h
  case h_33 => cases h
end
end Go.Am
