/- The abstract machine's operations are the model's: maps written, gone through. -/
import Derived.Test.YtmbiniafgdbbfaaGreatAmV
set_option linter.unusedSimpArgs false
set_option linter.unusedVariables false
set_option linter.unusedVariables false
namespace Go.Am
section
variable {X : Cx} {w0 : World} {ι : Iota} {H : Hp} {w : World}

theorem ERs.snoc {l l' : List MapEntry} (h : ERs ι l l') {k k' v v' : Value} (hk : VR ι k k') (hv : VR ι v v') (c : Nat) : ERs ι (l ++ [{ key := k, val := v, born := c }]) (l' ++ [{ key := k', val := v', born := c }]) :=
  h.append (.cons hk hv rfl .nil)

theorem stays_ok {P : Program} {a b : Value} (h : Instr.sameBits 10000 a b = true) : (Instr.keyThatStays a b).run P w = .ok b w := by simp [Instr.keyThatStays, h]

theorem mapUpdateA_ok (I : Inv w0 ι H w) {t : TypeId} {m m' k k' v v' : Value} {H' : Hp} (hm : VR ι m m') (hk : VR ι k k') (hv : VR ι v v') (h : mapUpdateA X H t m k v = some H') :
    ∃ w', (Instr.mapUpdate t m' k' v').run X.P w = .ok () w' ∧ Inv w0 ι H' w' ∧ Tran ι H w ι H' w' := by
  simp only [mapUpdateA, Option.bind_eq_some_iff] at h
  obtain ⟨kt, hkt, h⟩ := h
  obtain ⟨e0, hu⟩ := keyOf_eq hkt
  split at h
  · rename_i n
    split at h
    · rename_i es clock hg
      cases hc : (keyVal k && checkKeyA X 40 kt k) <;> simp only [hc, cond_true, cond_false] at h
      · cases h
      simp only [Bool.and_eq_true] at hc
      obtain ⟨u, hku⟩ := key_und hc.2
      have hck := fun e => checkKeyA_ok (w := w) 40 kt k k' hk hc.2 10000 (by omega) e
      obtain ⟨B, es', hB, rfl, hx, hE⟩ := map_inv I hg hm
      simp only [Option.bind_eq_some_iff] at h
      obtain ⟨r, hr, h⟩ := h
      obtain ⟨r', hr', hf⟩ := findA_ok I hk hE hr hku
      cases r with
      | none =>
        cases r' with
        | some x => simp only [foundR] at hf
        | none =>
          simp only [Option.some.injEq] at h; subst h
          obtain ⟨hI, hT⟩ := map_set I hg hB (fs := es ++ [{ key := k, val := v, born := clock }]) (fs' := es'.push { key := k', val := v', born := clock }) (c := clock + 1) (by simpa using hE.snoc hk hv clock)
          exact ⟨_, by simp [Instr.mapUpdate, run_underlying' hu, run_getObj hx, hck, hr', run_setObj hx], hI, hT⟩
      | some x =>
        obtain ⟨i, v0⟩ := x
        cases r' with
        | none => simp only [foundR] at hf
        | some y =>
          obtain ⟨j, v0'⟩ := y
          obtain ⟨rfl, hv0⟩ := hf
          simp only [Option.bind_eq_some_iff] at h
          obtain ⟨e, he, h⟩ := h
          cases hs : keySame e.key k <;> simp only [hs, cond_true, cond_false] at h
          · cases h
          cases h
          obtain ⟨e', he', hek, hev, heb⟩ := hE.get he
          have hst := stays_ok (P := X.P) (w := w) (keySame_ok hek hk hs)
          have he2 : es'[i]? = some e' := by simpa using he'
          obtain ⟨hI, hT⟩ := map_set I hg hB (fs := es.modify i fun e => { e with key := k, val := v }) (fs' := es'.modify i fun e => { e with key := k', val := v' }) (c := clock)
            (by rw [Array.toList_modify]; exact hE.modify i _ _ fun a b _ _ hb => ⟨hk, hv, hb⟩)
          exact ⟨_, by simp [Instr.mapUpdate, run_underlying' hu, run_getObj hx, hck, hr', he2, hst, run_setObj hx], hI, hT⟩
    · cases h
  · cases h

theorem mapEntryA_ok (I : Inv w0 ι H w) {t : TypeId} {m m' k k' v : Value} {H' : Hp} (hm : VR ι m m') (hk : VR ι k k') (h : mapEntryA X H t m k = some (v, H')) :
    ∃ w' v', (Instr.mapEntry t m' k').run X.P w = .ok v' w' ∧ Inv w0 ι H' w' ∧ Tran ι H w ι H' w' ∧ VR ι v v' := by
  simp only [mapEntryA, Option.bind_eq_some_iff] at h
  obtain ⟨kt, hkt, et, het, h⟩ := h
  obtain ⟨e0, hu⟩ := keyOf_eq hkt
  have : e0 = et := by simp only [valOf, hu, Option.some.injEq] at het; exact het
  subst this
  split at h
  · rename_i n
    split at h
    · rename_i es clock hg
      cases hc : (keyVal k && checkKeyA X 40 kt k) <;> simp only [hc, cond_true, cond_false] at h
      · cases h
      simp only [Bool.and_eq_true] at hc
      obtain ⟨u, hku⟩ := key_und hc.2
      have hck := fun e => checkKeyA_ok (w := w) 40 kt k k' hk hc.2 10000 (by omega) e
      obtain ⟨B, es', hB, rfl, hx, hE⟩ := map_inv I hg hm
      simp only [Option.bind_eq_some_iff] at h
      obtain ⟨r, hr, h⟩ := h
      obtain ⟨r', hr', hf⟩ := findA_ok I hk hE hr hku
      cases r with
      | none =>
        cases r' with
        | some x => simp only [foundR] at hf
        | none =>
          simp only [Option.map_eq_some_iff, Prod.mk.injEq] at h
          obtain ⟨z, hz, rfl, rfl⟩ := h
          have hzv := zeroOf_vr (ι := ι) hz
          obtain ⟨hI, hT⟩ := map_set I hg hB (fs := es ++ [{ key := k, val := z, born := clock }]) (fs' := es'.push { key := k', val := z, born := clock }) (c := clock + 1) (by simpa using hE.snoc hk hzv clock)
          exact ⟨_, .tuple #[z, goInt clock], by simp [Instr.mapEntry, run_underlying' hu, run_getObj hx, hck, hr', run_zeroOf hz, run_setObj hx], hI, hT, .tuple (.cons hzv (.cons (.int _ _) .nil))⟩
      | some x =>
        obtain ⟨i, v0⟩ := x
        cases r' with
        | none => simp only [foundR] at hf
        | some y =>
          obtain ⟨j, v0'⟩ := y
          obtain ⟨rfl, hv0⟩ := hf
          simp only [Option.bind_eq_some_iff] at h
          obtain ⟨e, he, h⟩ := h
          cases hs : keySame e.key k <;> simp only [hs, cond_true, cond_false, Option.some.injEq, Prod.mk.injEq, reduceCtorEq] at h
          obtain ⟨rfl, rfl⟩ := h
          obtain ⟨e', he', hek, hev, heb⟩ := hE.get he
          have hst := stays_ok (P := X.P) (w := w) (keySame_ok hek hk hs)
          have he2 : es'[i]? = some e' := by simpa using he'
          obtain ⟨hI, hT⟩ := map_set I hg hB (fs := es.modify i fun e => { e with key := k }) (fs' := es'.modify i fun e => { e with key := k' }) (c := clock)
            (by rw [Array.toList_modify]; exact hE.modify i _ _ fun a b _ hv hb => ⟨hk, hv, hb⟩)
          exact ⟨_, .tuple #[v0', goInt e'.born], by simp [Instr.mapEntry, run_underlying' hu, run_getObj hx, hck, hr', he2, hst, run_setObj hx], hI, hT, .tuple (.cons hv0 (.cons (by rw [heb]; exact .int _ _) .nil))⟩
    · cases h
  · cases h

theorem entryStoreA_ok (I : Inv w0 ι H w) {t : TypeId} {m m' k k' v v' : Value} {H' : Hp} (hm : VR ι m m') (hk : VR ι k k') (hv : VR ι v v') (h : entryStoreA H m k v = some H') :
    ∃ w', (Instr.entryStore t m' k' v').run X.P w = .ok () w' ∧ Inv w0 ι H' w' ∧ Tran ι H w ι H' w' := by
  unfold entryStoreA at h
  split at h
  · rename_i n kk s
    split at h
    · rename_i es clock hg
      obtain ⟨B, es', hB, rfl, hx, hE⟩ := map_inv I hg hm
      cases hk
      simp only [Option.map_eq_some_iff] at h
      obtain ⟨i, hi, rfl⟩ := h
      have hi' : es'.findIdx? (fun e => (e.born : Int) == s) = some i := by
        have e : ∀ p : MapEntry → Bool, es'.findIdx? p = es'.toList.findIdx? p := fun p => by rcases es' with ⟨l⟩; simp
        rw [e, hE.findIdx fun b => (b : Int) == s]; exact hi
      obtain ⟨hI, hT⟩ := map_set I hg hB (fs := es.modify i fun e => { e with val := v }) (fs' := es'.modify i fun e => { e with val := v' }) (c := clock)
        (by rw [Array.toList_modify]; exact hE.modify i _ _ fun a b hk _ hb => ⟨hk, hv, hb⟩)
      exact ⟨_, by simp [Instr.entryStore, run_getObj hx, asInt, asIntOf, hi', run_setObj hx], hI, hT⟩
    · cases h
  · cases h

theorem deleteA_ok (I : Inv w0 ι H w) {t rt : TypeId} {ts : Array TypeId} {m m' k k' : Value} {H' : Hp} (ht : ts[0]? = some t) (hm : VR ι m m') (hk : VR ι k k') (h : deleteA X H t m k = some H') :
    ∃ w', (Builtin.delete_ ts rt #[m', k']).run X.P w = .ok (.tuple #[]) w' ∧ Inv w0 ι H' w' ∧ Tran ι H w ι H' w' := by
  simp only [deleteA, Option.bind_eq_some_iff] at h
  obtain ⟨kt, hkt, h⟩ := h
  obtain ⟨e0, hu⟩ := keyOf_eq hkt
  cases hc : (keyVal k && checkKeyA X 40 kt k) <;> simp only [hc, cond_true, cond_false] at h
  · cases h
  simp only [Bool.and_eq_true] at hc
  obtain ⟨u, hku⟩ := key_und hc.2
  have hck := fun e => checkKeyA_ok (w := w) 40 kt k k' hk hc.2 10000 (by omega) e
  split at h
  · cases h; cases hm
    exact ⟨w, by simp [Builtin.delete_, ht, run_underlying' hu, hck], I, Tran.refl _ _ _⟩
  · rename_i n
    split at h
    · rename_i es clock hg
      obtain ⟨B, es', hB, rfl, hx, hE⟩ := map_inv I hg hm
      simp only [Option.map_eq_some_iff] at h
      obtain ⟨r, hr, h⟩ := h
      obtain ⟨r', hr', hf⟩ := findA_ok I hk hE hr hku
      cases r with
      | none =>
        cases r' with
        | some x => simp only [foundR] at hf
        | none =>
          simp only at h; subst h
          obtain ⟨hI, hT⟩ := map_set I hg hB (fs := es) (fs' := es') (c := clock) hE
          exact ⟨_, by simp [Builtin.delete_, ht, run_underlying' hu, run_getObj hx, hck, hr', run_setObj hx], hI, hT⟩
      | some x =>
        obtain ⟨i, v0⟩ := x
        cases r' with
        | none => simp only [foundR] at hf
        | some y =>
          obtain ⟨j, v0'⟩ := y
          obtain ⟨rfl, hv0⟩ := hf
          simp only at h; subst h
          obtain ⟨hI, hT⟩ := map_set I hg hB (fs := es.eraseIdx i) (fs' := es'.eraseIdxIfInBounds i) (c := clock) (by rw [Array.toList_eraseIdxIfInBounds]; exact hE.erase i)
          exact ⟨_, by simp [Builtin.delete_, ht, run_underlying' hu, run_getObj hx, hck, hr', run_setObj hx], hI, hT⟩
    · cases h
  · cases h

theorem rangeA_ok (I : Inv w0 ι H w) {t : TypeId} {x x' v : Value} {H' : Hp} (hx : VR ι x x') (h : rangeA X H t x = some (v, H')) :
    ∃ ι' w' v', (Instr.range t x').run X.P w = .ok v' w' ∧ Inv w0 ι' H' w' ∧ Tran ι H w ι' H' w' ∧ VR ι' v v' := by
  simp only [rangeA, Option.bind_eq_some_iff, Option.map_eq_some_iff, Prod.mk.injEq] at h
  obtain ⟨o, ho, ⟨n, H2⟩, ha, rfl, rfl⟩ := h
  have fin : ∀ y : Obj, (∀ ι', Ext ι ι' → ObR ι' ⟨w.heap.size, 0, 0⟩ o y) → (Instr.range t x').run X.P w = .ok (.pointer (some ⟨w.heap.size, 0, none⟩)) (pushW w y) →
      ∃ ι' w' v', (Instr.range t x').run X.P w = .ok v' w' ∧ Inv w0 ι' H2 w' ∧ Tran ι H w ι' H2 w' ∧ VR ι' (.pointer (some ⟨n, 0, none⟩)) v' := by
    intro y hy hrun
    obtain ⟨ι', hi, hI, hT⟩ := I.alloc ha ⟨w.heap.size, 0, 0⟩ rfl y fun ι' he _ => hy ι' he
    exact ⟨ι', _, _, hrun, hI, hT, by simpa using VR.ptr (off := 0) hi⟩
  split at ho
  · rename_i hu; cases ho; cases hx
    exact fin (.mapIter none 0 #[] 0) (fun _ _ => by simp [ObR]) (by simp [Instr.range, run_underlying' hu, pushW])
  · rename_i m hu
    split at ho
    · rename_i es clock hg
      cases ho
      obtain ⟨B, es', hB, rfl, hxx, hE⟩ := map_inv I hg hx
      exact fin (.mapIter (some B.block) clock #[] clock) (fun ι' he => ⟨rfl, rfl, rfl, rfl, B, he _ _ hB, rfl⟩) (by simp [Instr.range, run_underlying' hu, run_getObj hxx, pushW])
    · cases ho
  · rename_i s hu; cases ho; cases hx
    exact fin (.stringIter s 0) (fun _ _ => ⟨rfl, rfl, rfl⟩) (by simp [Instr.range, run_underlying' hu, pushW])
  · cases ho
end
end Go.Am
