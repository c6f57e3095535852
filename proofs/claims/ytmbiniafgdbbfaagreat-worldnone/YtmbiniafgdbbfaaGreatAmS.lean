/- The abstract machine's operations are the model's: '==', numbers, texts. -/
import Derived.Test.YtmbiniafgdbbfaaGreatAmQ
set_option linter.unusedSimpArgs false
set_option linter.unusedVariables false
set_option linter.unusedVariables false
namespace Go.Am
section
variable {X : Cx} {w0 : World} {ι : Iota} {H : Hp} {w : World}

theorem forIn_and {α : Type} {P : Program} {body : α → Option Bool × Unit → Sem (ForInStep (Option Bool × Unit))} {f : α → Option Bool} : ∀ (l : List α) (r : Bool),
    (∀ x ∈ l, ∀ b, f x = some b → (body x (none, ())).run P w = .ok (if b then .yield (none, ()) else .done (some false, ())) w) → andAll f l = some r →
    (forIn l (none, ()) body).run P w = .ok (if r then (none, ()) else (some false, ())) w
  | [], r, hb, h => by simp [andAll] at h; subst h; simp
  | x :: l, r, hb, h => by
    simp only [andAll, Option.bind_eq_some_iff] at h
    obtain ⟨b, hx, h⟩ := h
    have h1 := hb x (by simp) b hx
    cases b
    · simp only [cond_false, Option.some.injEq] at h; subst h
      simp [List.forIn_cons, h1]
    · simp only [cond_true] at h
      simp [List.forIn_cons, h1, forIn_and l r (fun y hy => hb y (by simp [hy])) h]

theorem str_beq (a b : ByteArray) : (a == b) = (a.data.toList == b.data.toList) := by
  rcases a with ⟨a⟩
  rcases b with ⟨b⟩
  have h1 : ((⟨a⟩ : ByteArray) == ⟨b⟩) = (a == b) := rfl
  rw [h1]
  by_cases h : a = b
  · subst h; simp
  · have h2 : ¬ a.toList = b.toList := fun e => h (Array.ext' e)
    have h3 : (a == b) = false := by simpa using h
    have h4 : (a.toList == b.toList) = false := by simpa using h2
    rw [h3, h4]

theorem vr_isNone_ptr {a : Option Addr} {b : Option Addr} (h : VR ι (.pointer a) (.pointer b)) : a.isNone = b.isNone := by cases h <;> rfl

set_option maxHeartbeats 2000000 in
theorem eqA_ok (I : Inv w0 ι H w) : ∀ (d : Nat) (t : TypeId) (x y x' y' : Value) (b : Bool), eqA X d t x y = some b → VR ι x x' → VR ι y y' → ∀ D, d ≤ D → (Op.equalIn D t x' y').run X.P w = .ok b w
  | 0, _, _, _, _, _, _, h, _, _, _, _ => by simp [eqA] at h
  | d + 1, t, x, y, x', y', b, h, hx, hy, 0, hD => by omega
  | d + 1, t, x, y, x', y', b, h, hx, hy, D + 1, hD => by
    unfold eqA at h
    split at h
    · rename_i hu; cases hx; cases hy; cases h; simp [Op.equalIn, run_underlying' hu]
    · rename_i hu; cases hx; cases hy
      split at h
      · rename_i e; subst e; cases h; simp [Op.equalIn, run_underlying' hu]
      · cases h
    · rename_i hu; cases hx; cases hy; cases h; simp [Op.equalIn, run_underlying' hu, str_beq]
    · rename_i hu
      cases hx; cases h
      cases hy <;> simp [Op.equalIn, run_underlying' hu]
    · rename_i hu
      cases hy; cases h
      cases hx <;> simp [Op.equalIn, run_underlying' hu]
    · rename_i e n i m j hu
      simp only [Option.bind_eq_some_iff] at h
      obtain ⟨s, hs, h⟩ := h
      simp only [beq_dec] at h
      by_cases hnm : n = m
      · subst hnm
        by_cases hs0 : s = 0
        · simp [hs0] at h
        · simp [hs0] at h
          subst h
          have key : ∀ (b o1 o2 : Nat), (Op.equalIn (D + 1) t (.pointer (some ⟨b, o1, none⟩)) (.pointer (some ⟨b, o2, none⟩))).run X.P w = .ok (decide (o1 = o2)) w := by
            intro b o1 o2
            simp [Op.equalIn, run_underlying' hu, run_sizeOf' hs, hs0, sameAddr]
            by_cases e : o1 = o2 <;> simp [e]
          cases hx with
          | ptr h1 => cases hy with
            | ptr h2 =>
              rw [h1] at h2; cases h2
              rw [key]; congr 1
              by_cases e : i = j <;> simp [e]
            | ptrF b2 => have := I.lt h1; omega
          | ptrF b1 =>
            generalize hz : FB + b1 = z at hy
            cases hy with
            | ptr h2 => have := I.lt h2; omega
            | ptrF b2 =>
              have : b1 = b2 := by omega
              subst this
              rw [key]
      · simp [hnm] at h
    · rename_i hu; cases hx; cases hy; cases h; simp [Op.equalIn, run_underlying' hu]
    · rename_i hu; cases hx; cases h; cases hy; simp [Op.equalIn, run_underlying' hu]
    · rename_i hu; cases hy; cases h; cases hx; simp [Op.equalIn, run_underlying' hu]
    · rename_i tx vx ty vy hu
      cases hx with
      | iface _ hvx => cases hy with
        | iface _ hvy =>
          simp only [beq_dec, bif_if] at h
          by_cases e : tx = ty
          · rw [if_pos e] at h
            simp only [Option.bind_eq_some_iff] at h
            obtain ⟨i, hi, h⟩ := h
            cases hc : i.comparable <;> simp only [hc, cond_true, cond_false] at h
            · cases h
            · simp [Op.equalIn, run_underlying' hu, e, run_typeInfo (e ▸ hi), hc, eqA_ok I d tx vx vy _ _ b h hvx hvy D (by omega)]
              rw [← e]; exact eqA_ok I d tx vx vy _ _ b h hvx hvy D (by omega)
          · rw [if_neg e] at h; cases h
            simp [Op.equalIn, run_underlying' hu, e]
    · rename_i fs xs ys hu
      cases hx with
      | agg hxs => cases hy with
        | agg hys =>
          cases hst : X.P.stoodInHeld t <;> simp only [hst, cond_true, cond_false] at h
          · simp only [Op.equalIn, Sem.run_bind, run_underlying' hu, Result.andThen_ok, run_program, hst, Bool.false_eq_true, if_false]
            rw [← Array.forIn_toList, forIn_and (w := w) fs.toList b ?_ h]
            · cases b <;> simp
            · intro f hf c hc
              by_cases hn : f.name = "_"
              · simp only [hn, if_true, Option.some.injEq] at hc; subst hc
                simp [hn]
              · simp only [hn, if_false, Option.bind_eq_some_iff] at hc
                obtain ⟨a1, ha1, a2, ha2, hc⟩ := hc
                obtain ⟨v1, r1, q1⟩ := partA_ok (w := w) hxs ha1
                obtain ⟨v2, r2, q2⟩ := partA_ok (w := w) hys ha2
                have := eqA_ok I d f.type a1 a2 v1 v2 c hc q1 q2 D (by omega)
                simp only [ne_eq, hn, not_false_eq_true, if_true, Sem.run_bind, r1, r2, this, Result.andThen_ok]
                cases c <;> simp
          · cases h
    · rename_i n e xs ys hu
      simp only [Option.bind_eq_some_iff] at h
      obtain ⟨s, hs, h⟩ := h
      cases hx with
      | agg hxs => cases hy with
        | agg hys =>
          simp only [Op.equalIn, Sem.run_bind, run_underlying' hu, Result.andThen_ok, run_sizeOf' hs]
          rw [Std.Legacy.Range.forIn_eq_forIn_range']
          have hr : List.range' ([:n] : Std.Legacy.Range).start ([:n] : Std.Legacy.Range).size ([:n] : Std.Legacy.Range).step = List.range n := by
            simp [Std.Legacy.Range.size, List.range_eq_range']
          rw [hr, forIn_and (w := w) (List.range n) b ?_ h]
          · cases b <;> simp
          · intro i hi c hc
            simp only [Option.bind_eq_some_iff] at hc
            obtain ⟨a1, ha1, a2, ha2, hc⟩ := hc
            obtain ⟨v1, r1, q1⟩ := partA_ok (w := w) hxs ha1
            obtain ⟨v2, r2, q2⟩ := partA_ok (w := w) hys ha2
            have := eqA_ok I d e a1 a2 v1 v2 c hc q1 q2 D (by omega)
            simp only [Sem.run_bind, r1, r2, this, Result.andThen_ok]
            cases c <;> simp
    · rename_i hu; cases hx; cases h; cases hy <;> simp [Op.equalIn, run_underlying' hu]
    · rename_i hu; cases hy; cases h; cases hx <;> simp [Op.equalIn, run_underlying' hu]
    · rename_i hu; cases hx; cases h; cases hy <;> simp [Op.equalIn, run_underlying' hu]
    · rename_i hu; cases hy; cases h; cases hx <;> simp [Op.equalIn, run_underlying' hu]
    · rename_i hu; cases hx; cases hy; cases h; simp [Op.equalIn, run_underlying' hu]
    · rename_i hu; cases hx; cases h; cases hy <;> simp [Op.equalIn, run_underlying' hu]
    · rename_i hu; cases hy; cases h; cases hx <;> simp [Op.equalIn, run_underlying' hu]
    · cases h
end
end Go.Am
