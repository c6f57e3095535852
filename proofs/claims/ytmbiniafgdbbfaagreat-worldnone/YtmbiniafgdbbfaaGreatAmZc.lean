/- The abstract machine's operations are the model's: conversions; all operations. -/
import Derived.Test.YtmbiniafgdbbfaaGreatAmZb
set_option linter.unusedSimpArgs false
set_option linter.unusedVariables false
set_option linter.unusedVariables false
namespace Go.Am
section
variable {X : Cx} {w0 : World} {ι : Iota} {H : Hp} {w : World}

/-- A new row, past whose end the model has set a mark. -/
theorem alloc_rowF (I : Inv w0 ι H w) {cs cs' : List Value} (hv : VRs ι cs cs') {n : Nat} {H' : Hp} (ha : H.alloc (.row cs) = some (n, H')) (extra : List Value) (elem : TypeId) :
    ∃ ι', ι' n = some ⟨w.heap.size, 0, (cs' ++ extra).length⟩ ∧ Inv w0 ι' H' (pushW w (.cells (cs' ++ extra).toArray elem ((cs' ++ extra).length, (cs' ++ extra).length + 1))) ∧ Tran ι H w ι' H' (pushW w (.cells (cs' ++ extra).toArray elem ((cs' ++ extra).length, (cs' ++ extra).length + 1))) := by
  refine I.alloc ha ⟨w.heap.size, 0, (cs' ++ extra).length⟩ rfl _ fun ι' he _ => ⟨by simp, by simp [hv.length], fun i v hi => ?_, fun i hi h => by simp at h hi; omega⟩
  obtain ⟨v', h1, h2⟩ := hv.get hi
  refine ⟨v', ?_, h2.mono he⟩
  have : i < cs'.length := by
    rcases Nat.lt_or_ge i cs'.length with h' | h'
    · exact h'
    · simp [List.getElem?_eq_none h'] at h1
  simp [List.getElem?_append_left this, h1]

theorem bytes_vr : ∀ (l : List UInt8), VRs ι (l.map fun b => Value.int .u8 b.toNat) (l.map fun b => Value.int .u8 b.toNat)
  | [] => .nil
  | b :: l => .cons (.int _ _) (bytes_vr l)

theorem toBytes_ok (I : Inv w0 ι H w) {e : TypeId} {t : ByteArray} {v : Value} {H' : Hp} (h : grown H 1 t.data.toList.length (t.data.toList.map fun b => .int .u8 b.toNat) = some (v, H')) :
    ∃ ι' w' v', (Conv.stringToBytes e t).run X.P w = .ok v' w' ∧ Inv w0 ι' H' w' ∧ Tran ι H w ι' H' w' ∧ VR ι' v v' := by
  simp only [grown, Option.map_eq_some_iff, Prod.mk.injEq] at h
  obtain ⟨⟨n, H2⟩, ha, rfl, rfl⟩ := h
  obtain ⟨cap, hcap, hch⟩ : ∃ cap, t.size ≤ cap ∧ (choose (.appendCap t.size 0 e)).run X.P w = .ok cap { w with drawn := w.drawn + 1 } := by
    refine ⟨(Question.appendCap t.size 0 e).cut (w.tape w.drawn (.appendCap t.size 0 e)), ?_, ?_⟩
    · exact Nat.le_add_right t.size _
    · rw [run_choose]; rfl
  have hts : t.data.toList.length = t.size := rfl
  have harr : (t.data.map fun (b : UInt8) => Value.int .u8 b.toNat) ++ Array.replicate (cap - t.size) (Value.int .u8 0) = ((t.data.toList.map fun (b : UInt8) => Value.int .u8 b.toNat) ++ List.replicate (cap - t.size) (Value.int .u8 0)).toArray := by
    apply Array.ext'; simp
  have hbv := bytes_vr (ι := ι) t.data.toList
  have hl0 : (t.data.toList.map fun (b : UInt8) => Value.int .u8 b.toNat).length = t.size := by rw [List.length_map, hts]
  rw [hts]
  generalize (t.data.toList.map fun (b : UInt8) => Value.int .u8 b.toNat) = bs at *
  have hlen : (bs ++ List.replicate (cap - t.size) (Value.int .u8 0)).length = cap := by
    simp only [List.length_append, List.length_replicate, hl0]; omega
  obtain ⟨ι', hi, hI, hT⟩ := alloc_rowF (I.drew (w.drawn + 1)) hbv ha (List.replicate (cap - t.size) (.int .u8 0)) e
  generalize (bs ++ List.replicate (cap - t.size) (.int .u8 0)) = all at *
  refine ⟨ι', _, .slice (some ⟨w.heap.size, 0, none⟩) t.size cap, ?_, hI, (Tran.drew (w.drawn + 1)).trans hT, ?_⟩
  · have hm : ∀ (w1 : World) (C : Array Value), (markStringish ⟨w1.heap.size, 0, none⟩).run X.P (pushW w1 (.cells C e (0, 0))) = .ok () (pushW w1 (.cells C e (C.size, C.size + 1))) := by
      intro w1 C
      have hg : (pushW w1 (.cells C e (0, 0))).heap[w1.heap.size]? = some (.cells C e (0, 0)) := Array.getElem?_push_size
      have hf : World.freeze (pushW w1 (.cells C e (0, 0))) ⟨w1.heap.size, C.size, none⟩ 1 = pushW w1 (.cells C e (C.size, C.size + 1)) := by
        simp only [World.freeze, pushW, Nat.succ_ne_zero, if_false]
        refine congrArg (fun h => ({ w1 with heap := h } : World)) ?_
        apply Array.ext_getElem?
        intro i
        rw [Array.getElem?_modify]
        by_cases hi : w1.heap.size = i
        · subst hi; simp
        · rw [if_neg hi, Array.getElem?_push, Array.getElem?_push]
          simp [Ne.symm hi]
      simp [markStringish, World.shape?, hg, hf]
    simp only [Conv.stringToBytes, Sem.run_bind, hch, Result.andThen_ok, harr, newRow_run]
    have := hm { w with drawn := w.drawn + 1 } all.toArray
    simp only [List.size_toArray] at this
    rw [this]
    simp
  · have := VR.slI (off := 0) hi (by decide : 0 < 1) t.size
    rw [hlen] at this
    simpa only [Nat.zero_add, hts, Nat.sub_zero, Nat.div_one] using this

theorem bytes_loop {P : Program} : ∀ (cs cs' : List Value) (bs : List UInt8) (s : ByteArray), VRs ι cs cs' → bytesOf cs = some bs →
    (forIn cs' s fun c s => (match c with
      | .int .u8 n => pure (ForInStep.yield (s.push (UInt8.ofNat n.toNat)))
      | _ => do
        stuck "bytesToString: byte expected"
        pure (ForInStep.yield s) : Sem (ForInStep ByteArray))).run P w = .ok ⟨s.data ++ bs.toArray⟩ w
  | [], _, bs, s, hv, h => by
    cases hv; simp [bytesOf] at h; subst h; simp
  | c :: cs, _, bs, s, hv, h => by
    cases hv with
    | cons hc ht =>
      unfold bytesOf at h
      split at h
      · cases ‹_ :: _ = []›
      · rename_i n r he
        cases he
        cases hc
        simp only [Option.map_eq_some_iff] at h
        obtain ⟨b2, hb, rfl⟩ := h
        have := bytes_loop (P := P) cs _ b2 (s.push (UInt8.ofNat n.toNat)) ht hb
        simp only [List.forIn_cons, Sem.run_bind, Sem.run_pure, Result.andThen_ok]
        rw [this]
        congr 1
        congr 1
        simp [ByteArray.push]
      · cases h

theorem convertA_ok (I : Inv w0 ι H w) (R : RoOk X w0) {s d : TypeId} {x x' v : Value} {H' : Hp} (hx : VR ι x x') (h : convertA X H s d x = some (v, H')) :
    ∃ ι' w' v', (convert s d x').run X.P w = .ok v' w' ∧ Inv w0 ι' H' w' ∧ Tran ι H w ι' H' w' ∧ VR ι' v v' := by
  unfold convertA at h
  split at h
  · rename_i du k kk n hs hd
    cases hx
    simp only [Option.some.injEq, Prod.mk.injEq] at h
    obtain ⟨rfl, rfl⟩ := h
    exact ⟨ι, w, _, by simp [convert, run_underlying' hs, run_underlying' hd, Conv.intToInt], I, Tran.refl _ _ _, .int _ _⟩
  · rename_i du t hs hd
    cases hx
    simp only [Option.some.injEq, Prod.mk.injEq] at h
    obtain ⟨rfl, rfl⟩ := h
    exact ⟨ι, w, _, by simp [convert, run_underlying' hs, run_underlying' hd], I, Tran.refl _ _ _, .string _⟩
  · rename_i du e t hs hd
    cases hx
    split at h
    · rename_i he
      obtain ⟨ι', w', v', hr, hI, hT, hv⟩ := toBytes_ok (X := X) (e := e) I h
      exact ⟨ι', w', v', by simp [convert, run_underlying' hs, run_underlying' hd, run_underlying' he, hr], hI, hT, hv⟩
    · cases h
  · rename_i e base len cap hs hd
    split at h
    · rename_i he
      obtain ⟨b', l', c', rfl⟩ := slice_inv hx
      split at h
      · cases hx
        simp only [Option.some.injEq, Prod.mk.injEq] at h
        obtain ⟨rfl, rfl⟩ := h
        exact ⟨ι, w, _, by simp [convert, run_underlying' hs, run_underlying' hd, run_underlying' he, Conv.bytesToString], I, Tran.refl _ _ _, .string _⟩
      · rename_i b off sp
        simp only [Option.bind_eq_some_iff, Option.map_eq_some_iff, Prod.mk.injEq] at h
        obtain ⟨cs, hr, l, hl, bs, hb, rfl, rfl⟩ := h
        obtain ⟨bb, oo, c2, he2, hp⟩ := sl_place I hx
        cases he2
        obtain ⟨A, hA, hvA⟩ : ∃ A, (loadCells ⟨bb, oo, none⟩ len).run X.P w = .ok A w ∧ VRs ι l A.toList := by
          by_cases h0 : len = 0
          · subst h0
            obtain ⟨_, rfl⟩ := cut_eq hl
            exact ⟨#[], by simp [loadCells, loadCellsFrom], by simp; exact .nil⟩
          · obtain ⟨C, elem, fz, hbk, hc⟩ := row_read I R (sp := none) hr (hp h0)
            exact load_row (X := X) hbk hc hl
        have hloop := bytes_loop (P := X.P) (w := w) l A.toList bs ByteArray.empty hvA hb
        refine ⟨ι, w, .string ⟨bs.toArray⟩, ?_, I, Tran.refl _ _ _, .string _⟩
        simp only [convert, Sem.run_bind, run_underlying' hs, run_underlying' hd, run_underlying' he, Result.andThen_ok, Conv.bytesToString, hA]
        have e1 : ∀ (A : Array Value) (f : Value → ByteArray → Sem (ForInStep ByteArray)) (s : ByteArray), forIn A s f = forIn A.toList s f := fun A f s => by simp
        rw [e1]
        have e2 : (ByteArray.mk (ByteArray.empty.data ++ bs.toArray)) = ⟨bs.toArray⟩ := by
          show ByteArray.mk (#[] ++ bs.toArray) = _
          rw [Array.empty_append]
        rw [e2] at hloop
        refine Eq.trans (congrArg (fun (r : Result ByteArray) => Result.andThen r fun a w' => Sem.run X.P (pure (Value.string a)) w') hloop) rfl
    · cases h
  · cases h
end
end Go.Am
