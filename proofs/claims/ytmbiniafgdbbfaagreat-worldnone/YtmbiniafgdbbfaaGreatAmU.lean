/- The abstract machine's operations are the model's: arithmetic, conversions, checks. -/
import Derived.Test.YtmbiniafgdbbfaaGreatAmS
set_option linter.unusedSimpArgs false
set_option linter.unusedVariables false
set_option linter.unusedVariables false
namespace Go.Am
section
variable {X : Cx} {w0 : World} {ι : Iota} {H : Hp} {w : World}

theorem intA_ok {op : BinOp} {k : IntKind} {a b : Int} {v : Value} {t : TypeId} (h : intA op k a b = some v) : (binOp op t (.int k a) (.int k b)).run X.P w = .ok v w ∧ VR ι v v := by
  cases op <;> simp only [intA, Option.some.injEq, reduceCtorEq] at h
  case quo =>
    split at h
    · cases h
    · rename_i hb; cases h; exact ⟨by simp [binOp, Op.intDiv, hb], .int _ _⟩
  case rem =>
    split at h
    · cases h
    · rename_i hb; cases h; exact ⟨by simp [binOp, Op.intDiv, hb], .int _ _⟩
  case and => simp [bitsA] at h; subst h; exact ⟨by simp [binOp, Op.intBits], .int _ _⟩
  case or => simp [bitsA] at h; subst h; exact ⟨by simp [binOp, Op.intBits], .int _ _⟩
  case xor => simp [bitsA] at h; subst h; exact ⟨by simp [binOp, Op.intBits], .int _ _⟩
  case andNot => simp [bitsA] at h; subst h; exact ⟨by simp [binOp, Op.intBits], .int _ _⟩
  all_goals (subst h; exact ⟨by simp [binOp, Op.intArith, Op.intCmp], by constructor⟩)

theorem shiftA_ok {op : BinOp} {k yk : IntKind} {a b : Int} {v : Value} {t : TypeId} (ho : op = .shl ∨ op = .shr) (h : shiftA op k a b = some v) : (binOp op t (.int k a) (.int yk b)).run X.P w = .ok v w ∧ VR ι v v := by
  unfold shiftA at h
  split at h
  · cases h
  · rename_i hb
    rcases ho with rfl | rfl <;> simp only [Option.some.injEq] at h <;> subst h <;> exact ⟨by simp [binOp, Op.shift, hb], .int _ _⟩

theorem toList_data (a : ByteArray) : a.toList = a.data.toList := by
  have key : ∀ (n i : Nat) (acc : List UInt8), a.size - i = n → ByteArray.toList.loop a i acc = acc.reverse ++ a.data.toList.drop i := by
    intro n
    induction n with
    | zero =>
      intro i acc hn
      rw [ByteArray.toList.loop]
      have : ¬ i < a.size := by omega
      rw [if_neg this, List.drop_eq_nil_of_le (by simpa using by omega)]; simp
    | succ n ih =>
      intro i acc hn
      have hi : i < a.size := by omega
      rw [ByteArray.toList.loop, if_pos hi, ih (i + 1) _ (by omega)]
      have hl : i < a.data.toList.length := by simpa using hi
      rw [List.drop_eq_getElem_cons hl]
      have : a.get! i = a.data.toList[i] := by
        show a.data[i]! = _
        rw [getElem!_pos a.data i (by simpa using hi)]; simp
      simp [this]
  have := key a.size 0 [] (by omega)
  simpa [ByteArray.toList] using this

theorem strA_ok {op : BinOp} {a b : ByteArray} {v : Value} {t : TypeId} (h : strA op a b = some v) : (binOp op t (.string a) (.string b)).run X.P w = .ok v w ∧ VR ι v v := by
  cases op <;> simp only [strA, Option.some.injEq, reduceCtorEq] at h
  case add =>
    simp only [ble_dec, bif_if] at h
    split at h
    · rename_i hle
      cases h
      have : ¬ (((a.size + b.size : Nat) : Int) > IntKind.i64.max) := by
        have h1 : a.data.toList.length = a.size := by simp
        have h2 : b.data.toList.length = b.size := by simp
        have h3 : IntKind.i64.max = 9223372036854775807 := by decide
        rw [h3]; omega
      have e : (⟨(a.data.toList ++ b.data.toList).toArray⟩ : ByteArray) = a ++ b := by
        apply ByteArray.ext; apply Array.ext'; simp
      refine ⟨?_, .string _⟩
      rw [e]
      simp only [binOp, Op.stringOp, this, if_false, Sem.run_pure]
    · cases h
  all_goals (subst h; exact ⟨by simp [binOp, Op.stringOp, toList_data], by constructor⟩)

theorem guard_ok {op : BinOp} {t : TypeId} {x y : Operand} {a b a' b' : Value} (ha : VR ι a a') (hb : VR ι b b')
    (h : (match op with | .eql | .neq => eqFree X t (x matches .const _) (y matches .const _) a b | _ => true) = true) : (eqGuard op t x y a' b').run X.P w = .ok () w := by
  have key : ∀ op, (op = .eql ∨ op = .neq) → eqFree X t (x matches .const _) (y matches .const _) a b = true → (eqGuard op t x y a' b').run X.P w = .ok () w := by
    intro op ho hf
    rcases ho with rfl | rfl <;> cases ha <;> cases hb <;> first
      | (simp [eqGuard]; done)
      | (clear h; cases x <;> cases y <;> simp [eqFree] at hf <;> simp [eqGuard]; done)
      | (simp only [eqFree, Bool.not_eq_true'] at hf; simp [eqGuard, hf]; done)
  cases op <;> first
    | exact key _ (.inl rfl) h
    | exact key _ (.inr rfl) h
    | simp [eqGuard]

theorem binA_ok (I : Inv w0 ι H w) {op : BinOp} {t : TypeId} {a b a' b' v : Value} (ha : VR ι a a') (hb : VR ι b b') (h : binA X op t a b = some v) : ∃ v', (binOp op t a' b').run X.P w = .ok v' w ∧ VR ι v v' := by
  have keq : ∀ op (c : Bool), (op = .eql ∨ op = .neq) → eqA X 40 t a b = some c → (binOp op t a' b').run X.P w = .ok (.bool (if op = .eql then c else !c)) w ∨ (∃ k x k' y, a = .int k x ∧ b = .int k' y) ∨ (∃ x y, a = .string x ∧ b = .string y) := by
    intro op c ho he
    have hq := eqA_ok I 40 t a b a' b' c he ha hb 10000 (by omega)
    have hgen : (∀ (z : BinOp), z = op → binOp z t a' b' = (do pure (.bool (← Op.equal t a' b')))) → op = .eql → (binOp op t a' b').run X.P w = .ok (.bool c) w := by
      intro hz _
      rw [hz op rfl]; simp [Op.equal, Op.maxDepth, hq]
    have hgen2 : (∀ (z : BinOp), z = op → binOp z t a' b' = (do pure (.bool (!(← Op.equal t a' b'))))) → op = .neq → (binOp op t a' b').run X.P w = .ok (.bool !c) w := by
      intro hz _
      rw [hz op rfl]; simp [Op.equal, Op.maxDepth, hq]
    cases ha with
    | int k x => cases hb with
      | int k' y => exact .inr (.inl ⟨_, _, _, _, rfl, rfl⟩)
      | _ => (rcases ho with rfl | rfl <;> simp [eqA] at he <;> (try (split at he <;> simp at he)))
    | float k x => cases hb <;> (rcases ho with rfl | rfl <;> simp [eqA] at he <;> (try (split at he <;> simp at he)))
    | string x => cases hb with
      | string y => exact .inr (.inr ⟨_, _, rfl, rfl⟩)
      | _ => (rcases ho with rfl | rfl <;> simp [eqA] at he <;> (try (split at he <;> simp at he)))
    | _ =>
      rcases ho with rfl | rfl
      · exact .inl (by simpa using hgen (fun z hz => by subst hz; rfl) rfl)
      · exact .inl (by simpa using hgen2 (fun z hz => by subst hz; rfl) rfl)
  unfold binA at h
  split at h
  · cases ha; cases hb; exact ⟨_, shiftA_ok (.inl rfl) h⟩
  · cases ha; cases hb; exact ⟨_, shiftA_ok (.inr rfl) h⟩
  · cases ha; cases hb
    split at h
    · rename_i e; subst e; exact ⟨_, intA_ok h⟩
    · cases h
  · cases ha; cases hb; exact ⟨_, strA_ok h⟩
  · rename_i h1 h2
    simp only [Option.map_eq_some_iff] at h
    obtain ⟨c, hc, rfl⟩ := h
    rcases keq .eql c (.inl rfl) hc with hr | ⟨k, x, k', y, rfl, rfl⟩ | ⟨x, y, rfl, rfl⟩
    · exact ⟨_, hr, by simpa using VR.bool c⟩
    · exact absurd rfl (h1 k x k' y rfl)
    · exact absurd rfl (h2 x y rfl)
  · rename_i h1 h2
    simp only [Option.map_eq_some_iff] at h
    obtain ⟨c, hc, rfl⟩ := h
    rcases keq .neq c (.inr rfl) hc with hr | ⟨k, x, k', y, rfl, rfl⟩ | ⟨x, y, rfl, rfl⟩
    · exact ⟨_, hr, by simpa using VR.bool (!c)⟩
    · exact absurd rfl (h1 k x k' y rfl)
    · exact absurd rfl (h2 x y rfl)
  · cases h

theorem unA_ok {op : UnOp} {a a' v : Value} (ha : VR ι a a') (h : unA op a = some v) : ∃ v', (Op.unary op a').run X.P w = .ok v' w ∧ VR ι v v' := by
  unfold unA at h
  split at h
  · cases ha; cases h; exact ⟨_, by simp only [Op.unary, Op.intArith, Sem.run_pure], .int _ _⟩
  · cases ha
    simp only [bitsA, Option.map_some, Option.some.injEq] at h
    subst h
    exact ⟨_, by simp only [Op.unary, Op.intBits, Sem.run_pure], .int _ _⟩
  · cases ha; cases h; exact ⟨_, by simp only [Op.unary, Sem.run_pure], .bool _⟩
  · cases h

theorem nilCheckA_ok {a a' v : Value} {o : Oper} {x : Operand} {ρ' : Operand → Value} (ho : o.op = .nilCheck x) (hr : ρ' x = a') (ha : VR ι a a') (h : nilCheckA a = some v) : (execOp ρ' o).run X.P w = .ok (.value a') w ∧ VR ι v a' := by
  unfold nilCheckA at h
  split at h
  · cases h
    cases ha <;> exact ⟨by simp [execOp, ho, hr], by constructor <;> assumption⟩
  · cases h
    cases ha; exact ⟨by simp [execOp, ho, hr], by constructor <;> assumption⟩
  · cases h
    cases ha; exact ⟨by simp [execOp, ho, hr], by constructor <;> assumption⟩
  · cases h

theorem typeAssertA_ok {a a' v : Value} {xt t : TypeId} {ok : Bool} (ha : VR ι a a') (h : typeAssertA X a t ok = some v) : ∃ v', (Instr.typeAssert a' xt t ok).run X.P w = .ok v' w ∧ VR ι v v' := by
  unfold typeAssertA at h
  split at h
  · cases h
  · rename_i d hni hu
    cases ha
    cases ok <;> simp only [cond_true, cond_false, Option.map_eq_some_iff] at h
    · cases h
    · obtain ⟨z, hz, rfl⟩ := h
      refine ⟨.tuple #[z, .bool false], ?_, .tuple (.cons (zeroOf_vr hz) (.cons (.bool _) .nil))⟩
      simp only [Instr.typeAssert, Sem.run_bind, run_underlying' hu, Result.andThen_ok]
      cases d <;> first | (simp [run_zeroOf hz]; done) | (exact absurd rfl (hni _))
  · rename_i d t' x hni hu
    cases ha with
    | iface _ hv =>
      rename_i x'
      simp only [beq_dec, bif_if] at h
      by_cases e : t' = t
      · rw [if_pos e] at h
        cases h
        refine ⟨if ok then .tuple #[x', .bool true] else x', ?_, by cases ok <;> simp <;> first | exact hv | exact .tuple (.cons hv (.cons (.bool _) .nil))⟩
        simp only [Instr.typeAssert, Sem.run_bind, run_underlying' hu, Result.andThen_ok]
        cases d <;> first | (cases ok <;> simp [e]; done) | (exact absurd rfl (hni _))
      · rw [if_neg e] at h
        cases ok <;> simp only [cond_true, cond_false, Option.map_eq_some_iff] at h
        · cases h
        · obtain ⟨z, hz, rfl⟩ := h
          refine ⟨.tuple #[z, .bool false], ?_, .tuple (.cons (zeroOf_vr hz) (.cons (.bool _) .nil))⟩
          simp only [Instr.typeAssert, Sem.run_bind, run_underlying' hu, Result.andThen_ok]
          cases d <;> first | (simp [run_zeroOf hz, e]; done) | (exact absurd rfl (hni _))
  · cases h
end
end Go.Am
