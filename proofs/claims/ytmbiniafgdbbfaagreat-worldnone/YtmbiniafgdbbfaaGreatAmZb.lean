/- The abstract machine's operations are the model's: the other built-in calls, conversions; all operations. -/
import Derived.Test.YtmbiniafgdbbfaaGreatAmZ
set_option linter.unusedSimpArgs false
set_option linter.unusedVariables false
set_option linter.unusedVariables false
namespace Go.Am
section
variable {X : Cx} {w0 : World} {ι : Iota} {H : Hp} {w : World}

/-- Where a slice's cells lie. -/
theorem sl_place (I : Inv w0 ι H w) {b off : Nat} {sp : Option Nat} {len cap : Nat} {v' : Value} (h : VR ι (.slice (some ⟨b, off, sp⟩) len cap) v') :
    ∃ bb oo c', v' = .slice (some ⟨bb, oo, none⟩) len c' ∧ (len ≠ 0 → ((∃ B, ι b = some B ∧ bb = B.block ∧ oo = B.base + off) ∨ (b = FB + bb ∧ oo = off))) := by
  cases h with
  | slE hB => exact ⟨_, _, _, rfl, fun _ => .inl ⟨_, hB, rfl, rfl⟩⟩
  | slI hB => exact ⟨_, _, _, rfl, fun _ => .inl ⟨_, hB, rfl, rfl⟩⟩
  | slPe hB => exact ⟨_, _, _, rfl, fun h => absurd rfl h⟩
  | slPl hB => exact ⟨_, _, _, rfl, fun h => absurd rfl h⟩
  | slF bb => exact ⟨_, _, _, rfl, fun _ => .inr ⟨rfl, rfl⟩⟩

theorem list2 {args : List Value} {args' : Array Value} {a b : Value} (h : VRs ι args args'.toList) (e : args = [a, b]) : ∃ a' b', args' = #[a', b'] ∧ VR ι a a' ∧ VR ι b b' := by
  subst e
  rcases args' with ⟨l⟩
  cases h with
  | cons a t => cases t with
    | cons b t => cases t; exact ⟨_, _, rfl, a, b⟩
theorem list1 {args : List Value} {args' : Array Value} {a : Value} {r : List Value} (h : VRs ι args args'.toList) (e : args = a :: r) : ∃ a' r', args'.toList = a' :: r' ∧ args'[0]? = some a' ∧ VR ι a a' ∧ VRs ι r r' := by
  subst e
  rcases args' with ⟨l⟩
  cases h with
  | cons a t => exact ⟨_, _, rfl, rfl, a, t⟩

theorem copyA_ok (I : Inv w0 ι H w) (R : RoOk X w0) {ts : Array TypeId} {rt dt : TypeId} {d d' s s' v : Value} {H' : Hp} (ht : ts[0]? = some dt) (hd : VR ι d d') (hs : VR ι s s') (h : copyA X H dt d s = some (v, H')) :
    ∃ w' v', (Builtin.copy_ ts rt #[d', s']).run X.P w = .ok v' w' ∧ Inv w0 ι H' w' ∧ Tran ι H w ι H' w' ∧ VR ι v v' := by
  unfold copyA at h
  split at h
  · rename_i e base len cap hu
    simp only [Option.bind_eq_some_iff] at h
    obtain ⟨sz, hsz, k, hk, h⟩ := h
    obtain ⟨b', l', c', rfl⟩ := slice_inv hd
    have hl' : l' = len := by cases hd <;> rfl
    subst hl'
    have hlen := lenA_ok (P := X.P) (w := w) hs hk
    have e0 : (#[Value.slice b' l' c', s'] : Array Value)[0]? = some (.slice b' l' c') := rfl
    have e1 : (#[Value.slice b' l' c', s'] : Array Value)[1]? = some s' := rfl
    simp only [beq_dec, bif_if] at h
    split at h
    · rename_i hn0
      cases h
      have hfc : (Builtin.firstCells sz 0 s').run X.P w = .ok #[] w := by
        have : ∃ b o c, s' = .slice (some ⟨b, o, none⟩) k c ∨ s' = .slice none k c ∨ ∃ t, s' = .string t := by
          unfold lenA at hk
          split at hk
          · rename_i bb _ _
            cases hk
            cases hs <;> first | exact ⟨_, _, _, .inl rfl⟩ | exact ⟨0, 0, _, .inr (.inl rfl)⟩
          · cases hs; exact ⟨0, 0, 0, .inr (.inr ⟨_, rfl⟩)⟩
          · cases hk
        obtain ⟨b, o, c, rfl | rfl | ⟨t, rfl⟩⟩ := this
        · simp [Builtin.firstCells, loadCells, loadCellsFrom]
        · simp [Builtin.firstCells]
        · simp [Builtin.firstCells]
      refine ⟨w, goInt 0, ?_, I, Tran.refl _ _ _, .int _ _⟩
      simp only [Builtin.copy_, ht, e0, e1, Sem.run_bind, run_underlying' hu, Result.andThen_ok, hlen, hn0, run_sizeOf' hsz, hfc, Sem.run_pure]
      cases b' <;> simp [storeCells, hn0]
    · rename_i hn0
      simp only [Option.bind_eq_some_iff] at h
      obtain ⟨cs, hcs, h⟩ := h
      obtain ⟨A, hA, hv⟩ := firstA_ok I R hs hcs
      split at h
      · rename_i b off sp
        cases hone : cs.all oneCell <;> simp only [hone, cond_true, cond_false] at h
        · cases h
        simp only [Option.bind_eq_some_iff, Option.map_eq_some_iff, Prod.mk.injEq] at h
        obtain ⟨row, hr, l, hl, rfl, rfl⟩ := h
        obtain ⟨bb, oo, c2, he, hp⟩ := sl_place I hd
        cases he
        have hne : l' ≠ 0 := by
          intro e; apply hn0; subst e; simp [Nat.min_def]
        obtain ⟨B, hB, rfl, rfl⟩ := own_lt I hr (hp hne)
        obtain ⟨w', hst, hI, hT⟩ := store_row (X := X) I hr hB hv hone hl
        refine ⟨w', goInt (Nat.min k l'), ?_, hI, hT, .int _ _⟩
        simp only [Builtin.copy_, ht, e0, e1, Sem.run_bind, run_underlying' hu, Result.andThen_ok, hlen, run_sizeOf' hsz, hA, hst, Sem.run_pure]
      · cases h
  · cases h

theorem clearA_ok (I : Inv w0 ι H w) {ts : Array TypeId} {rt t : TypeId} {x x' : Value} {args' : Array Value} {H' : Hp} (ht : ts[0]? = some t) (ha : args'[0]? = some x') (hx : VR ι x x') (h : clearA X H t x = some H') :
    ∃ w', (Builtin.clear_ ts rt args').run X.P w = .ok (.tuple #[]) w' ∧ Inv w0 ι H' w' ∧ Tran ι H w ι H' w' := by
  unfold clearA at h
  split at h
  · rename_i d hu
    cases h; cases hx
    exact ⟨w, by simp [Builtin.clear_, ht, ha, run_underlying' hu], I, Tran.refl _ _ _⟩
  · rename_i d _ _ hu
    cases h; cases hx
    exact ⟨w, by simp [Builtin.clear_, ht, ha, run_underlying' hu], I, Tran.refl _ _ _⟩
  · rename_i d n hu
    split at h
    · rename_i es clock hg
      cases h
      obtain ⟨B, es', hB, rfl, hxx, hE⟩ := map_inv I hg hx
      obtain ⟨hI, hT⟩ := map_set I hg hB (fs := []) (fs' := #[]) (c := clock) .nil
      exact ⟨_, by simp [Builtin.clear_, ht, ha, run_underlying' hu, run_getObj hxx, run_setObj hxx], hI, hT⟩
    · cases h
  · rename_i e b off sp len cap hu
    simp only [beq_dec, bif_if] at h
    obtain ⟨bb, oo, c2, rfl, hp⟩ := sl_place I hx
    split at h
    · rename_i h0
      cases h; subst h0
      exact ⟨w, by simp [Builtin.clear_, ht, ha, run_underlying' hu], I, Tran.refl _ _ _⟩
    · rename_i h0
      simp only [Option.bind_eq_some_iff] at h
      obtain ⟨z, hz, row, hr, h⟩ := h
      cases hone : z.cells.toList.all oneCell <;> simp only [hone, cond_true, cond_false] at h
      · cases h
      simp only [Option.map_eq_some_iff] at h
      obtain ⟨l, hl, rfl⟩ := h
      obtain ⟨B, hB, rfl, rfl⟩ := own_lt I hr (hp h0)
      have hall : ∀ n, (repeatL z.cells.toList n).all oneCell = true := by
        intro n
        induction n with
        | zero => rfl
        | succ n ih => simp only [repeatL, List.all_append, hone, ih, Bool.and_self]
      obtain ⟨w', hst, hI, hT⟩ := store_row (X := X) I hr hB (repeat_vr (zeroOf_vr hz) len) (hall len) hl
      obtain ⟨k, rfl⟩ : ∃ k, len = k + 1 := ⟨len - 1, by omega⟩
      refine ⟨w', ?_, hI, hT⟩
      simp only [Builtin.clear_, ht, ha, Sem.run_bind, run_underlying' hu, Result.andThen_ok, run_zeroOf hz, zeroCells_eq, hst, Sem.run_pure]
  · cases h

theorem lenOpA_ok (I : Inv w0 ι H w) {ts : Array TypeId} {rt t : TypeId} {x x' v : Value} {args' : Array Value} (ht : ts[0]? = some t) (ha : args'[0]? = some x') (hx : VR ι x x') (h : lenOpA X H t x = some v) :
    (Builtin.len_ ts rt args').run X.P w = .ok v w ∧ VR ι v v := by
  unfold lenOpA at h
  split at h
  · rename_i hu; cases h; cases hx; exact ⟨by simp [Builtin.len_, ht, ha, run_underlying' hu], .int _ _⟩
  · rename_i hu; cases h; exact ⟨by simp [Builtin.len_, ht, ha, run_underlying' hu], .int _ _⟩
  · rename_i a hu
    split at h
    · rename_i hu2; cases h; exact ⟨by simp [Builtin.len_, ht, ha, run_underlying' hu, run_underlying' hu2], .int _ _⟩
    · cases h
  · rename_i hu; cases h; cases hx <;> exact ⟨by simp [Builtin.len_, ht, ha, run_underlying' hu], .int _ _⟩
  · rename_i hu; cases h; cases hx; exact ⟨by simp [Builtin.len_, ht, ha, run_underlying' hu], .int _ _⟩
  · rename_i n hu
    split at h
    · rename_i es clock hg
      cases h
      obtain ⟨B, es', hB, rfl, hxx, hE⟩ := map_inv I hg hx
      have := hE.length
      exact ⟨by simp [Builtin.len_, ht, ha, run_underlying' hu, run_getObj hxx, this], .int _ _⟩
    · cases h
  · cases h

theorem capOpA_ok {ts : Array TypeId} {rt t : TypeId} {x x' v : Value} {args' : Array Value} (ht : ts[0]? = some t) (ha : args'[0]? = some x') (hx : VR ι x x') (h : capOpA X t x = some v) :
    (Builtin.cap_ ts rt args').run X.P w = .ok v w ∧ VR ι v v := by
  unfold capOpA at h
  split at h
  · rename_i hu; cases h; exact ⟨by simp [Builtin.cap_, ht, ha, run_underlying' hu], .int _ _⟩
  · rename_i hu; cases h; cases hx; exact ⟨by simp [Builtin.cap_, ht, ha, run_underlying' hu], .int _ _⟩
  · rename_i hu; cases h; cases hx <;> exact ⟨by simp [Builtin.cap_, ht, ha, run_underlying' hu], .int _ _⟩
  · cases h

theorem minMax_vr {f : Int → Int → Bool} : ∀ {l : List Value} {k : IntKind} {x : Int} {v : Value}, minMax f (.int k x) l = some v → VR ι v v
  | [], k, x, v, h => by simp [minMax] at h; subst h; exact .int _ _
  | y :: l, k, x, v, h => by
    unfold minMax at h
    split at h
    · rename_i e1 e2; cases e2
    · rename_i e1 e2; cases e2
      split at h
      · exact minMax_vr h
      · cases h
    · cases h
theorem min_ok {P : Program} : ∀ {l l' : List Value} {k : IntKind} {x : Int} {v : Value}, VRs ι l l' → minMax (fun x y => y < x) (.int k x) l = some v → (l'.foldlM Builtin.min2 (.int k x)).run P w = .ok v w
  | [], _, k, x, v, .nil, h => by simp [minMax] at h; subst h; simp
  | y :: l, _, k, x, v, .cons hy t, h => by
    unfold minMax at h
    split at h
    · rename_i e1 e2; cases e2
    · rename_i e1 e2; cases e2; cases e1
      split at h
      · rename_i hk; subst hk
        cases hy
        rename_i b
        rw [List.foldlM_cons, Sem.run_bind]
        simp only [Builtin.min2, Sem.run_pure, Result.andThen_ok]
        have := min_ok (P := P) t h
        by_cases hc : b < x <;> simp [hc] at this ⊢ <;> exact this
      · cases h
    · cases h
theorem max_ok {P : Program} : ∀ {l l' : List Value} {k : IntKind} {x : Int} {v : Value}, VRs ι l l' → minMax (fun x y => y > x) (.int k x) l = some v → (l'.foldlM Builtin.max2 (.int k x)).run P w = .ok v w
  | [], _, k, x, v, .nil, h => by simp [minMax] at h; subst h; simp
  | y :: l, _, k, x, v, .cons hy t, h => by
    unfold minMax at h
    split at h
    · rename_i e1 e2; cases e2
    · rename_i e1 e2; cases e2; cases e1
      split at h
      · rename_i hk; subst hk
        cases hy
        rename_i b
        rw [List.foldlM_cons, Sem.run_bind]
        simp only [Builtin.max2, Sem.run_pure, Result.andThen_ok]
        have := max_ok (P := P) t h
        by_cases hc : b > x <;> simp [hc] at this ⊢ <;> exact this
      · cases h
    · cases h

theorem builtinA_ok (I : Inv w0 ι H w) (R : RoOk X w0) {b : Builtin} {ats : Array TypeId} {rt : TypeId} {cs : Array Bool} {args : List Value} {args' : Array Value} {v : Value} {H' : Hp} (ha : VRs ι args args'.toList)
    (h : builtinA X H b ats.toList args = some (v, H')) :
    ∃ ι' w' v', (builtin b ats rt cs args').run X.P w = .ok (.value v') w' ∧ Inv w0 ι' H' w' ∧ Tran ι H w ι' H' w' ∧ VR ι' v v' := by
  have h0 : ∀ t r, ats.toList = t :: r → ats[0]? = some t := fun t r e => by
    have : ats.toList[0]? = some t := by rw [e]; rfl
    simpa using this
  unfold builtinA at h
  split at h
  · obtain ⟨ι', w', v', hr, hI, hT, hv⟩ := appendA_ok (rt := rt) I R ha h
    exact ⟨ι', w', v', by simp [builtin, hr], hI, hT, hv⟩
  · rename_i t r x q ht
    obtain ⟨x', r', _, hx0, hx, _⟩ := list1 ha rfl
    simp only [Option.map_eq_some_iff, Prod.mk.injEq] at h
    obtain ⟨y, hy, rfl, rfl⟩ := h
    obtain ⟨hr, hv⟩ := lenOpA_ok (rt := rt) I (h0 _ _ ht) hx0 hx hy
    exact ⟨ι, w, _, by simp [builtin, hr], I, Tran.refl _ _ _, hv⟩
  · rename_i t r x q ht
    obtain ⟨x', r', _, hx0, hx, _⟩ := list1 ha rfl
    simp only [Option.map_eq_some_iff, Prod.mk.injEq] at h
    obtain ⟨y, hy, rfl, rfl⟩ := h
    obtain ⟨hr, hv⟩ := capOpA_ok (w := w) (rt := rt) (h0 _ _ ht) hx0 hx hy
    exact ⟨ι, w, _, by simp [builtin, hr], I, Tran.refl _ _ _, hv⟩
  · rename_i t r d s ht
    obtain ⟨d', s', rfl, hd, hs⟩ := list2 ha rfl
    obtain ⟨w', v', hr, hI, hT, hv⟩ := copyA_ok (rt := rt) I R (h0 _ _ ht) hd hs h
    exact ⟨ι, w', v', by simp [builtin, hr], hI, hT, hv⟩
  · rename_i t r m k ht
    obtain ⟨m', k', rfl, hm, hk⟩ := list2 ha rfl
    simp only [Option.map_eq_some_iff, Prod.mk.injEq] at h
    obtain ⟨H2, h2, rfl, rfl⟩ := h
    obtain ⟨w', hr, hI, hT⟩ := deleteA_ok (rt := rt) I (h0 _ _ ht) hm hk h2
    exact ⟨ι, w', .tuple #[], by simp [builtin, hr], hI, hT, .tuple .nil⟩
  · rename_i t r x ht
    obtain ⟨x', r', _, hx0, hx, _⟩ := list1 ha rfl
    simp only [Option.map_eq_some_iff, Prod.mk.injEq] at h
    obtain ⟨H2, h2, rfl, rfl⟩ := h
    obtain ⟨w', hr, hI, hT⟩ := clearA_ok (rt := rt) I (h0 _ _ ht) hx0 hx h2
    exact ⟨ι, w', .tuple #[], by simp [builtin, hr], hI, hT, .tuple .nil⟩
  · rename_i k x r
    obtain ⟨x', r', he, hx0, hx, hrr⟩ := list1 ha rfl
    cases hx
    simp only [Option.map_eq_some_iff, Prod.mk.injEq] at h
    obtain ⟨y, hy, rfl, rfl⟩ := h
    have := min_ok (P := X.P) (w := w) hrr hy
    exact ⟨ι, w, y, by simp [builtin, Builtin.min_, he, this], I, Tran.refl _ _ _, minMax_vr hy⟩
  · rename_i k x r
    obtain ⟨x', r', he, hx0, hx, hrr⟩ := list1 ha rfl
    cases hx
    simp only [Option.map_eq_some_iff, Prod.mk.injEq] at h
    obtain ⟨y, hy, rfl, rfl⟩ := h
    have := max_ok (P := X.P) (w := w) hrr hy
    exact ⟨ι, w, y, by simp [builtin, Builtin.max_, he, this], I, Tran.refl _ _ _, minMax_vr hy⟩
  · cases h
end
end Go.Am
