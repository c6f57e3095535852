/- The abstract machine's operations are the model's: iterators; slices that are made, grow, are copied. -/
import Derived.Test.YtmbiniafgdbbfaaGreatAmW
set_option linter.unusedSimpArgs false
set_option linter.unusedVariables false
set_option linter.unusedVariables false
namespace Go.Am
section
variable {X : Cx} {w0 : World} {ι : Iota} {H : Hp} {w : World}

def comersC (es : Array MapEntry) (since : Nat) (seen : Array Nat) : Array (Option MapEntry) :=
  let left := es.filter fun e => !seen.contains e.born
  let old := left.filter (·.born < since)
  let new := left.filter (·.born ≥ since)
  (if old.isEmpty then #[none] else #[]) ++ (old ++ new).map some

theorem comersC_list (es : Array MapEntry) (since : Nat) (seen : Array Nat) : (comersC es since seen).toList = comers es.toList since seen.toList := by
  rcases es with ⟨l⟩
  rcases seen with ⟨s⟩
  simp only [comersC, comers, Array.toList_append]
  congr 1
  · simp only [List.filter_toArray, List.contains_toArray, List.isEmpty_toArray]
    split <;> rfl
  · simp

theorem ERs.one {l' : List MapEntry} {e : MapEntry} (h : ERs ι [e] l') : ∃ e', l' = [e'] ∧ VR ι e.key e'.key ∧ VR ι e.val e'.val ∧ e.born = e'.born := by
  cases h with
  | cons hk hv hb t => cases t; exact ⟨_, rfl, hk, hv, hb⟩
theorem ERs.empty {l l' : List MapEntry} (h : ERs ι l l') : l'.isEmpty = l.isEmpty := by cases h <;> rfl

theorem comers_ok {es es' : List MapEntry} (h : ERs ι es es') (since : Nat) (seen : List Nat) :
    (∀ e, comers es since seen = [some e] → ∃ e', comers es' since seen = [some e'] ∧ VR ι e.key e'.key ∧ VR ι e.val e'.val ∧ e.born = e'.born) ∧ (comers es since seen = [none] → comers es' since seen = [none]) := by
  have hl : ERs ι (es.filter fun e => !seen.contains e.born) (es'.filter fun e => !seen.contains e.born) := h.filter fun b => !seen.contains b
  have ho := hl.filter fun b => decide (b < since)
  have hn := hl.filter fun b => decide (b ≥ since)
  have hm := ho.empty
  have happ := ho.append hn
  constructor
  · intro e he
    simp only [comers] at he ⊢
    rw [hm]
    split at he
    · simp at he
    · rename_i hne
      rw [if_neg hne]
      simp only [List.nil_append] at he ⊢
      have h1 : ∃ x, List.filter (fun x => decide (x.born < since)) (List.filter (fun e => !seen.contains e.born) es) ++ List.filter (fun x => decide (x.born ≥ since)) (List.filter (fun e => !seen.contains e.born) es) = [x] ∧ x = e := by
        cases hl : List.filter (fun x => decide (x.born < since)) (List.filter (fun e => !seen.contains e.born) es) ++ List.filter (fun x => decide (x.born ≥ since)) (List.filter (fun e => !seen.contains e.born) es) with
        | nil => rw [hl] at he; simp at he
        | cons a r => rw [hl] at he; cases r with
          | nil => simp at he; exact ⟨a, rfl, he⟩
          | cons _ _ => simp at he
      obtain ⟨x, hx, rfl⟩ := h1
      rw [hx] at happ
      obtain ⟨e', he', a, b, c⟩ := happ.one
      exact ⟨e', by rw [he']; rfl, a, b, c⟩
  · intro he
    simp only [comers] at he ⊢
    rw [hm]
    split at he
    · rename_i hne
      rw [if_pos hne]
      have h1 : List.filter (fun x => decide (x.born < since)) (List.filter (fun e => !seen.contains e.born) es) ++ List.filter (fun x => decide (x.born ≥ since)) (List.filter (fun e => !seen.contains e.born) es) = [] := by
        cases hl : List.filter (fun x => decide (x.born < since)) (List.filter (fun e => !seen.contains e.born) es) ++ List.filter (fun x => decide (x.born ≥ since)) (List.filter (fun e => !seen.contains e.born) es) with
        | nil => rfl
        | cons a r => rw [hl] at he; simp at he
      rw [h1] at happ
      cases hz : List.filter (fun x => decide (x.born < since)) (List.filter (fun e => !seen.contains e.born) es') ++ List.filter (fun x => decide (x.born ≥ since)) (List.filter (fun e => !seen.contains e.born) es') with
      | nil => simp
      | cons a r => rw [hz] at happ; cases happ
    · simp only [List.nil_append] at he
      cases hl : List.filter (fun x => decide (x.born < since)) (List.filter (fun e => !seen.contains e.born) es) ++ List.filter (fun x => decide (x.born ≥ since)) (List.filter (fun e => !seen.contains e.born) es) with
      | nil => rw [hl] at he; simp at he
      | cons a r => rw [hl] at he; simp at he

theorem ptr_own (I : Inv w0 ι H w) {n off : Nat} {v' : Value} {o : Ob} (hg : H.get n = some o) (h : VR ι (.pointer (some ⟨n, off, none⟩)) v') : ∃ B x, ι n = some B ∧ v' = .pointer (some ⟨B.block, B.base + off, none⟩) ∧ w.heap[B.block]? = some x ∧ ObR ι B o x := by
  obtain ⟨B, x, hB, hx, hob⟩ := I.live n o hg
  cases h with
  | ptr h => rw [hB] at h; cases h; exact ⟨B, x, hB, rfl, hx, hob⟩
  | ptrF b => have := I.lt hB; omega

theorem choose_one {P : Program} (q : Question) (h : q.forced = true) : (choose q).run P w = .ok 0 w := by simp [h]

theorem nextA_ok (I : Inv w0 ι H w) {it it' v : Value} {s : Bool} {t : TypeId} {H' : Hp} (hi : VR ι it it') (h : nextA H it s = some (v, H')) :
    ∃ w' v', (Instr.next it' s t).run X.P w = .ok v' w' ∧ Inv w0 ι H' w' ∧ Tran ι H w ι H' w' ∧ VR ι v v' := by
  unfold nextA at h
  split at h
  · rename_i r
    split at h
    · rename_i hg
      cases h
      obtain ⟨B, x, hB, rfl, hx, hob⟩ := ptr_own I hg hi
      cases x <;> simp only [ObR] at hob
      obtain ⟨hb0, _, _, _, rfl⟩ := hob
      exact ⟨w, .tuple #[.bool false], by simp [Instr.next, hb0, run_getObj hx], I, Tran.refl _ _ _, .tuple (.cons (.bool _) .nil)⟩
    · rename_i m since seen last hg
      obtain ⟨B, x, hB, rfl, hx, hob⟩ := ptr_own I hg hi
      cases x <;> simp only [ObR] at hob
      rename_i m' since' seen' st'
      obtain ⟨hb0, rfl, rfl, hseen, C, hC, rfl⟩ := hob
      split at h
      · rename_i es clock hgm
        obtain ⟨B2, es', hB2, he2, hx2, hE⟩ := map_inv I hgm (VR.map hC)
        rw [hC] at hB2; cases hB2
        cases hc : (!seen.isEmpty && !es.isEmpty && es.all (·.born ≥ last)) <;> simp only [hc, cond_true, cond_false] at h
        · have hc' : (!seen'.isEmpty && !es'.isEmpty && es'.all (·.born ≥ last)) = false := by
            rw [← hc, ← hseen]
            have e1 : es'.isEmpty = es.isEmpty := by rw [← hE.empty]; rcases es' with ⟨l⟩; simp
            have e2 : es'.all (·.born ≥ last) = es.all (·.born ≥ last) := by rw [← hE.all fun b => decide (b ≥ last)]; rcases es' with ⟨l⟩; simp
            have e3 : seen'.isEmpty = seen'.toList.isEmpty := by rcases seen' with ⟨l⟩; simp
            rw [e1, e2, e3]
          have hcl : (comersC es' since seen').toList = comers es'.toList since seen := by rw [comersC_list, hseen]
          obtain ⟨c1, c2⟩ := comers_ok hE since seen
          have hrun : ∀ e', (comersC es' since seen').toList = [e'] → (Instr.next (.pointer (some ⟨B.block, B.base + 0, none⟩)) false t).run X.P w =
              (match some e' with
               | some (some e) => (do setObj B.block (.mapIter (some C.block) since (seen'.push e.born) clock); pure (.tuple #[.bool true, e.key, e.val]))
               | some none => pure (.tuple #[.bool false])
               | none => stuck "Next: no such candidate" : Sem Value).run X.P w := by
            intro e' he'
            have hsz : (comersC es' since seen').size = 1 := by have := congrArg List.length he'; simpa using this
            have hch := choose_one (P := X.P) (w := w) (.mapNext (comersC es' since seen').size) (by simp [Question.forced, hsz])
            have hg0 : (comersC es' since seen')[0]? = some e' := by
              have : (comersC es' since seen').toList[0]? = some e' := by rw [he']; rfl
              simpa using this
            simp only [Instr.next, hb0, Nat.add_zero, Sem.run_bind, run_getObj hx (by simp), Result.andThen_ok, run_getObj hx2 (by simp), hc', Bool.false_eq_true, if_false]
            have := hch
            unfold comersC at this hg0
            simp only [Result.andThen_ok, this, hg0]
            cases e' <;> rfl
          split at h
          · rename_i e hce
            cases h
            obtain ⟨e', he', hk, hv, hb⟩ := c1 e hce
            obtain ⟨hI, hT⟩ := I.setObj hg hB (.iter (some m) since (seen ++ [e.born]) clock) (.mapIter (some C.block) since (seen'.push e'.born) clock) ⟨hb0, rfl, rfl, by simp [hseen, hb], C, hC, rfl⟩
            refine ⟨_, .tuple #[.bool true, e'.key, e'.val], ?_, hI, hT, .tuple (.cons (.bool _) (.cons hk (.cons hv .nil)))⟩
            rw [hrun (some e') (by rw [hcl]; exact he')]
            simp [run_setObj hx, putW]
          · rename_i hce
            cases h
            refine ⟨w, .tuple #[.bool false], ?_, I, Tran.refl _ _ _, .tuple (.cons (.bool _) .nil)⟩
            rw [hrun none (by rw [hcl]; exact c2 hce)]
            simp
          · cases h
        · cases h
      · cases h
    · rename_i str pos hg
      obtain ⟨B, x, hB, rfl, hx, hob⟩ := ptr_own I hg hi
      cases x <;> simp only [ObR] at hob
      obtain ⟨hb0, rfl, rfl⟩ := hob
      simp only [blt_dec, bif_if] at h
      split at h
      · rename_i hlt
        cases h
        obtain ⟨hI, hT⟩ := I.setObj hg hB (.sit str (pos + (Utf8.decode str pos).2)) (.stringIter str (pos + (Utf8.decode str pos).2)) ⟨hb0, rfl, rfl⟩
        exact ⟨_, .tuple #[.bool true, goInt pos, .int .i32 (Utf8.decode str pos).1], by simp [Instr.next, hb0, run_getObj hx, hlt, run_setObj hx, putW], hI, hT, .tuple (.cons (.bool _) (.cons (.int _ _) (.cons (.int _ _) .nil)))⟩
      · rename_i hlt
        cases h
        exact ⟨w, .tuple #[.bool false], by simp [Instr.next, hb0, run_getObj hx, hlt], I, Tran.refl _ _ _, .tuple (.cons (.bool _) .nil)⟩
    · cases h
  · cases h

theorem entryA_ok (I : Inv w0 ι H w) {it it' v : Value} (hi : VR ι it it') (h : entryA H it = some v) : ∃ v', (Instr.entry it').run X.P w = .ok v' w ∧ VR ι v v' := by
  unfold entryA at h
  split at h
  · rename_i r
    split at h
    · rename_i m since seen stepped hg
      obtain ⟨B, x, hB, rfl, hx, hob⟩ := ptr_own I hg hi
      cases x <;> simp only [ObR] at hob
      rename_i m' since' seen' st'
      obtain ⟨hb0, rfl, rfl, hseen, C, hC, rfl⟩ := hob
      split at h
      · rename_i es clock stamp hgm hst
        obtain ⟨B2, es', hB2, he2, hx2, hE⟩ := map_inv I hgm (VR.map hC)
        rw [hC] at hB2; cases hB2
        simp only [beq_dec, bif_if] at h
        split at h
        · rename_i hcs; subst hcs
          simp only [Option.map_eq_some_iff] at h
          obtain ⟨e, he, rfl⟩ := h
          obtain ⟨e', he', hk, hv, hb⟩ := hE.find (fun b => b == stamp) he
          have hback : seen'.back? = some stamp := by rw [← hst, ← hseen]; simp [Array.getLast?_toList]
          have hf : es'.find? (fun e => e.born == stamp) = some e' := by rw [← Array.find?_toList]; exact he'
          exact ⟨.tuple #[e'.key, e'.val], by simp [Instr.entry, hb0, run_getObj hx, hback, run_getObj hx2, hf], .tuple (.cons hk (.cons hv .nil))⟩
        · cases h
      · cases h
    · cases h
  · cases h
end
end Go.Am
