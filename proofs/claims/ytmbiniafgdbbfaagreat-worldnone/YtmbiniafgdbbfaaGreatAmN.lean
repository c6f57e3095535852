/- Regions that draw: values that are alike are equal; quiet operations; the temporaries in any order. -/
import Derived.Test.YtmbiniafgdbbfaaGreatAmL
set_option linter.unusedSimpArgs false
set_option linter.unusedVariables false
set_option linter.unusedVariables false
namespace Go.Am

theorem zip_eq {f : Value → Value → Bool} : ∀ (a b : List Value), a.length = b.length → ((a.zip b).all fun (x, y) => f x y) = true → (∀ x ∈ a, ∀ y, f x y = true → x = y) → a = b
  | [], [], _, _, _ => rfl
  | [], _ :: _, h, _, _ => by simp at h
  | _ :: _, [], h, _, _ => by simp at h
  | x :: a, y :: b, h, hz, hf => by
    simp only [List.zip_cons_cons, List.all_cons, Bool.and_eq_true] at hz
    rw [hf x (by simp) y hz.1, zip_eq a b (by simpa using h) hz.2 fun u hu v => hf u (by simp [hu]) v]

theorem arr_eq {f : Value → Value → Bool} {a b : Array Value} (h : (a.size == b.size) = true) (hz : ((a.toList.zip b.toList).all fun (x, y) => f x y) = true) (hf : ∀ x y, f x y = true → x = y) : a = b :=
  Array.ext' (zip_eq a.toList b.toList (by simpa using h) hz fun x _ y => hf x y)

theorem sameV_eq : ∀ (n : Nat) (a b : Value), sameV n a b = true → a = b := by
  intro n
  induction n with
  | zero => intro a b h; simp [sameV] at h
  | succ n ih =>
    intro a b h
    unfold sameV at h
    split at h <;> (try simp only [Bool.and_eq_true, beq_dec, decide_eq_true_eq, beq_iff_eq] at h) <;> (try (cases ‹_ + 1 = _›))
    all_goals first
      | rfl
      | (cases h; done)
      | (subst h; rfl)
      | (obtain ⟨h1, h2⟩ := h; subst h1 h2; rfl)
      | (obtain ⟨⟨⟨h1, h2⟩, h3⟩, h4⟩ := h; subst h1 h2 h3 h4; rfl)
      | (obtain ⟨⟨⟨⟨h1, h2⟩, h3⟩, h4⟩, h5⟩ := h; subst h1 h2 h3 h4 h5; rfl)
      | (obtain ⟨⟨⟨⟨h1, h2⟩, h3⟩, h4⟩, h5⟩ := h; subst h1; rw [arr_eq (by simpa using h2) h4 ih, arr_eq (by simpa using h3) h5 ih])
      | (obtain ⟨h1, h2⟩ := h; rw [arr_eq (by simpa using h1) h2 ih])
      | (obtain ⟨h1, h2⟩ := h; subst h1; rw [ih _ _ h2])
      | (rename_i x y _; obtain ⟨x⟩ := x; obtain ⟨y⟩ := y; simp only [Value.string.injEq, ByteArray.mk.injEq]; exact Array.ext' h)

/-- A quiet operation leaves the heap as it is. -/
theorem quiet_same {X : Cx} {o : Oper} {ρ : Operand → Value} {H H' : Hp} {v : Value} (hq : quietOp X o.op = true) (h : aop X o ρ H = some (v, H')) : H' = H := by
  have one : ∀ {s : Option Value}, (s.map fun v => (v, H)) = some (v, H') → H' = H := by
    intro s h; simp only [Option.map_eq_some_iff, Prod.mk.injEq] at h; obtain ⟨a, h1, rfl, rfl⟩ := h; rfl
  have two : ∀ {x : Value}, some (x, H) = some (v, H') → H' = H := by
    intro x h; cases h; rfl
  unfold aop at h
  cases e : o.op <;> rw [e] at hq h <;> simp only at h <;> (try (simp only [quietOp] at hq; cases hq; done)) <;> (try (exact one h)) <;> (try (exact two h)) <;> (try (cases h; done))
  case pick c a b =>
    split at h
    · exact two h
    · cases h
  case binOp => exact one (bif_some h).2
  case makeInterface => exact two (bif_some h).2
  case makeFunc =>
    split at h
    · exact two h
    · cases h
  case convert s d x =>
    unfold convertA at h
    split at h
    · exact two h
    · exact two h
    · rename_i hd _
      simp only [quietOp] at hq
      rw [hd] at hq; cases hq
    · split at h
      · split at h
        · exact two h
        · simp only [Option.bind_eq_some_iff, Option.map_eq_some_iff, Prod.mk.injEq] at h
          obtain ⟨_, _, _, _, _, _, _, rfl⟩ := h; rfl
      · cases h
    · cases h
  case extract t i =>
    split at h
    · exact one h
    · cases h

/-- What a quiet operation does, in any heap in which it yields its value. -/
theorem quiet_ok {X : Cx} {w0 : World} {ι : Iota} {H : Hp} {w : World} (I : Inv w0 ι H w) (R : RoOk X w0) {o : Oper} {env : Env} {ρ' : Operand → Value} (hρ : ∀ x ∈ o.op.operands.toList, VR ι (opnd env x) (ρ' x)) (hq : quietOp X o.op = true) {v : Value}
    (h : quietVal X o env H = some v) : ∃ w' v', ((execOp ρ' o).run X.P w = .ok (.value v') w' ∨ ((execOp ρ' o).run X.P w = .ok .skip w' ∧ v' = undef)) ∧ Inv w0 ι H w' ∧ Tran ι H w ι H w' ∧ VR ι v v' := by
  have fin : ∀ {ι' : Iota} {w' : World} {v' : Value}, Inv w0 ι' H w' → Tran ι H w ι' H w' → VR ι' v v' → ι' = ι := fun hI hT hv => by
    funext n
    cases hn : ι n with
    | some B => exact hT.ext n B hn
    | none =>
      cases hn' : ‹Iota› n with
      | none => rfl
      | some B =>
        rcases hT.new n B hn' with h1 | h1
        · rw [hn] at h1; cases h1
        · have := (hI.dom n B hn').1; omega
  have key : Does X.P w0 ι H w (execOp ρ' o) v H := by
    unfold quietVal at h
    split at h
    · rename_i b args ats e
      simp only [Option.map_eq_some_iff] at h
      obtain ⟨⟨v1, H1⟩, h1, rfl⟩ := h
      have hargs : VRs ι (args.toList.map (opnd env)) (args.map ρ').toList := by
        rw [Array.toList_map]
        exact VRs.map fun x hx => hρ x (by rw [e]; simp [Op.operands, Call.operands] at hx ⊢; exact hx)
      obtain ⟨ι', w', v', hrun, hI, hT, hv⟩ := builtinA_ok (rt := o.type) (cs := args.map fun | .const _ => true | _ => false) I R hargs h1
      have hH : H1 = H := by
        rw [e] at hq
        simp only [quietOp] at hq
        unfold builtinA at h1
        split at h1
        case h_2 => simp only [Option.map_eq_some_iff, Prod.mk.injEq] at h1; obtain ⟨_, _, _, e⟩ := h1; exact e.symm
        case h_3 => simp only [Option.map_eq_some_iff, Prod.mk.injEq] at h1; obtain ⟨_, _, _, e⟩ := h1; exact e.symm
        case h_7 => simp only [Option.map_eq_some_iff, Prod.mk.injEq] at h1; obtain ⟨_, _, _, e⟩ := h1; exact e.symm
        case h_8 => simp only [Option.map_eq_some_iff, Prod.mk.injEq] at h1; obtain ⟨_, _, _, e⟩ := h1; exact e.symm
        all_goals first | (cases hq; done) | (cases h1; done)
      subst hH
      exact ⟨ι', w', v', .inl (by simp only [execOp, e, resolve, Sem.run_bind, Sem.run_pure, Result.andThen_ok, invoke]; exact hrun), hI, hT, hv⟩
    · simp only [Option.map_eq_some_iff] at h
      obtain ⟨⟨v1, H1⟩, h1, rfl⟩ := h
      have := quiet_same hq h1
      subst this
      exact aop_ok I R hρ h1
  obtain ⟨ι', w', v', hr, hI, hT, hv⟩ := key
  have := fin hI hT hv
  subst this
  exact ⟨w', v', hr, hI, hT, hv⟩

section temps
variable (ops : List Oper) (es : List Te) (nt : Nat) (env0 : Env)
def wr (m t : Nat) : Prop := (ops[m]?).bind (·.dst) = some t ∧ t < nt
open Classical in
/-- A temporary's value once the operations of S have been carried out. -/
noncomputable def valS (S : Nat → Prop) (t : Nat) : Nat → Value
  | 0 => env0.val t
  | m + 1 => if S m ∧ wr ops nt m t then ((es[m]?).map (·.v)).getD undef else valS S t m

theorem valS_of {S S' : Nat → Prop} {t : Nat} : ∀ (m : Nat), (∀ j < m, wr ops nt j t → (S j ↔ S' j)) → valS ops es nt env0 S t m = valS ops es nt env0 S' t m
  | 0, h => rfl
  | m + 1, h => by
    have ih := valS_of m fun j hj => h j (by omega)
    simp only [valS]
    by_cases hw : wr ops nt m t
    · have := h m (by omega) hw
      by_cases hs : S m
      · rw [if_pos ⟨hs, hw⟩, if_pos ⟨this.1 hs, hw⟩]
      · rw [if_neg (fun hh => hs hh.1), if_neg (fun hh => hs (this.2 hh.1)), ih]
    · rw [if_neg (fun hh => hw hh.2), if_neg (fun hh => hw hh.2), ih]

/-- Nothing of S from m on writes it. -/
theorem valS_cut {S : Nat → Prop} {t : Nat} {m : Nat} : ∀ (n : Nat), m ≤ n → (∀ j, m ≤ j → j < n → wr ops nt j t → ¬ S j) → valS ops es nt env0 S t n = valS ops es nt env0 S t m
  | n, hmn, h => by
    induction n with
    | zero => have : m = 0 := by omega
              subst this; rfl
    | succ n ih =>
      by_cases e : m = n + 1
      · subst e; rfl
      · simp only [valS]
        rw [if_neg (fun hh => h n (by omega) (by omega) hh.2 hh.1)]
        exact ih (by omega) fun j h1 h2 => h j h1 (by omega)
end temps
end Go.Am
