/- The abstract machine's frames and the model's. -/
import Derived.Test.YtmbiniafgdbbfaaGreatAmZd
set_option linter.unusedSimpArgs false
set_option linter.unusedVariables false
set_option linter.unusedVariables false
namespace Go.Am

inductive ItR (ι : Iota) : It → Item → Prop
  | code (c : Code) : ItR ι (.code c) (.code c)
  | inBlock (id : Nat) : ItR ι (.inBlock id) (.inBlock id)
  | inLoop (b : Code) : ItR ι (.inLoop b) (.inLoop b)
  | endRF {l : Nat} {B : Blk} (h : ι l = some B) : ItR ι (.endRF l) (.endRangeFunc B.block)
  | beginRound : ItR ι .beginRound .beginRound

inductive ItsR (ι : Iota) : List It → List Item → Prop
  | nil : ItsR ι [] []
  | cons {a : It} {b : Item} {l : List It} {m : List Item} (h : ItR ι a b) (t : ItsR ι l m) : ItsR ι (a :: l) (b :: m)

structure PER (ι : Iota) (p q : PanicEntry) : Prop where
  v : VR ι p.v q.v
  rcv : q.recovered = p.recovered
  goexit : q.goexit = p.goexit

inductive ChR (ι : Iota) : List PanicEntry → List PanicEntry → Prop
  | nil : ChR ι [] []
  | cons {p q : PanicEntry} {l m : List PanicEntry} (h : PER ι p q) (t : ChR ι l m) : ChR ι (p :: l) (q :: m)

inductive ModeR (ι : Iota) : FrameMode → FrameMode → Prop
  | run : ModeR ι .run .run
  | returning : ModeR ι .returning .returning
  | panicking {a b : List PanicEntry} (h : ChR ι a b) : ModeR ι (.panicking a) (.panicking b)

theorem ItsR.mono {ι ι' : Iota} (e : Ext ι ι') {l : List It} {m : List Item} (h : ItsR ι l m) : ItsR ι' l m := by
  induction h with
  | nil => exact .nil
  | cons h _ ih =>
    refine .cons ?_ ih
    cases h with
    | endRF h => exact .endRF (e _ _ h)
    | _ => constructor
theorem ChR.mono {ι ι' : Iota} (e : Ext ι ι') {l m : List PanicEntry} (h : ChR ι l m) : ChR ι' l m := by
  induction h with
  | nil => exact .nil
  | cons h _ ih => exact .cons ⟨h.v.mono e, h.rcv, h.goexit⟩ ih
theorem ChR.append {ι : Iota} {a a' b b' : List PanicEntry} (h : ChR ι a a') (k : ChR ι b b') : ChR ι (a ++ b) (a' ++ b') := by
  induction h with
  | nil => exact k
  | cons h _ ih => exact .cons h ih
theorem ModeR.mono {ι ι' : Iota} (e : Ext ι ι') {l m : FrameMode} (h : ModeR ι l m) : ModeR ι' l m := by
  cases h with
  | run => exact .run
  | returning => exact .returning
  | panicking h => exact .panicking (h.mono e)

theorem raised_ok {ι : Iota} {u m : FrameMode} {a b : List PanicEntry} (h : ModeR ι u m) (k : ChR ι a b) : ModeR ι (raised u a) (raised m b) := by
  cases h with
  | run => exact .panicking k
  | returning => exact .panicking k
  | panicking h => exact .panicking (k.append h)

theorem ChR.dropWhile {ι : Iota} {a b : List PanicEntry} (h : ChR ι a b) : ChR ι (a.dropWhile (!·.goexit)) (b.dropWhile (!·.goexit)) := by
  induction h with
  | nil => exact .nil
  | cons h t ih =>
    simp only [List.dropWhile_cons, h.goexit]
    split
    · exact ih
    · exact .cons h t

theorem settle_ok {ι : Iota} {u m : FrameMode} (h : ModeR ι u m) : ModeR ι (settle u) (settle m) := by
  cases h with
  | run => exact .run
  | returning => exact .returning
  | panicking h =>
    cases h with
    | nil => exact .panicking .nil
    | cons h t =>
      rename_i p q l m
      obtain ⟨pv, pr, pg⟩ := p
      obtain ⟨qv, qr, qg⟩ := q
      obtain ⟨hv, hr, hg⟩ := h
      simp only at hv hr hg
      subst hr hg
      cases qr
      · exact .panicking (.cons ⟨hv, rfl, rfl⟩ t)
      · simp only [settle]
        have := t.dropWhile
        revert this
        generalize l.dropWhile (!·.goexit) = x
        generalize m.dropWhile (!·.goexit) = y
        intro h
        cases h with
        | nil => exact .returning
        | cons h t => exact .panicking (.cons h t)

structure FrR (ι : Iota) (fr : Fr) (c : Frame) : Prop where
  fn : c.fn = fr.fn
  env : EnvR ι fr.env fr.nt c.tmps
  todo : fr.mode = .run → ItsR ι fr.todo c.todo
  defers : DRs ι fr.defers c.defers
  mode : ModeR ι fr.mode c.mode
  kind : c.kind = fr.kind
  round : match fr.round with
    | none => c.roundOf = none
    | some l => ∃ B, ι l = some B ∧ c.roundOf = some B.block
  ok : fr.kind = .normal ∨ (fr.kind = .deferred ∧ fr.round = none)
  rd : fr.round ≠ none → fr.defers = [] ∧ fr.mode ≠ .returning

theorem FrR.mono {ι ι' : Iota} (e : Ext ι ι') {fr : Fr} {c : Frame} (h : FrR ι fr c) : FrR ι' fr c :=
  ⟨h.fn, h.env.mono e, fun r => (h.todo r).mono e, h.defers.mono e, h.mode.mono e, h.kind, by
    have := h.round
    split at this
    · exact this
    · obtain ⟨B, a, b⟩ := this; exact ⟨B, e _ _ a, b⟩, h.ok, h.rd⟩

section
variable {ι : Iota}

theorem exitA_ok {id : Nat} : ∀ {k : List It} {k' : List Item}, ItsR ι k k' → (∀ r, exitA id k = some r → ∃ r', exitTo id k' = some r' ∧ ItsR ι r r') ∧ (exitA id k = none → exitTo id k' = none)
  | _, _, .nil => ⟨fun r h => by simp [exitA] at h, fun _ => rfl⟩
  | _, _, .cons (l := l) (m := m) h t => by
    have ih := exitA_ok (id := id) t
    cases h with
    | inBlock i =>
      simp only [exitA, exitTo, beq_dec, beq_iff_eq]
      by_cases e : i = id
      · simp only [e, decide_true, cond_true, if_true]
        exact ⟨fun r h => by cases h; exact ⟨m, rfl, t⟩, fun h => by cases h⟩
      · simp only [e, decide_false, cond_false, if_false]
        exact ih
    | code c => exact ih
    | inLoop c => exact ih
    | endRF h => exact ih
    | beginRound => exact ih

theorem EnvR.put {env : Env} {nt : Nat} {tmps : Array Value} (h : EnvR ι env nt tmps) {v v' : Value} (hv : VR ι v v') (dst : Option Tmp) :
    EnvR ι (env.put nt dst v) nt (match dst with | some d => tmps.setIfInBounds d v' | none => tmps) := by
  cases dst with
  | none => exact h
  | some d =>
    have hs := h.small
    simp only [Env.put]
    by_cases c : d < nt
    · have c2 : d < FB := Nat.lt_of_lt_of_le c (Nat.le_trans hs (by decide))
      have e : (Nat.blt d nt && Nat.blt d FB) = true := by simp [blt_dec, c, c2]
      rw [e, cond_true]
      refine ⟨hs, by simp [h.size], fun t => ?_⟩
      have hg : (env.set 40 d (some v)).get t = if t = d then some v else env.get t := Tr.get_set 40 env d t (some v) c2
      have hd : d < tmps.size := by rw [h.size]; exact c
      by_cases e : t = d
      · subst e
        have e1 : Env.val (Tr.set 40 env t (some v)) t = v := by simp only [Env.val]; rw [hg, if_pos rfl]; rfl
        have e2 : (tmps.setIfInBounds t v').getD t undef = v' := by simp [Array.getD, hd]
        rw [e1, e2]; exact hv
      · have e1 : Env.val (Tr.set 40 env d (some v)) t = env.val t := by simp only [Env.val]; rw [hg, if_neg e]
        have e2 : (tmps.setIfInBounds d v').getD t undef = tmps.getD t undef := by
          simp only [Array.getD_eq_getD_getElem?, Array.getElem?_setIfInBounds_ne (Ne.symm e)]
        rw [e1, e2]; exact h.val t
    · have e : (Nat.blt d nt && Nat.blt d FB) = false := by simp [blt_dec, c]
      rw [e, cond_false]
      have : tmps.setIfInBounds d v' = tmps := by
        rw [Array.setIfInBounds_eq_of_size_le]
        rw [h.size]; exact Nat.le_of_not_lt c
      rw [this]; exact h

theorem opnd_ok {fr : Fr} {c : Frame} (h : EnvR ι fr.env fr.nt c.tmps) {x : Operand} (hx : opndOk x = true) : VR ι (opnd fr.env x) (c.eval x) := by
  cases x with
  | tmp t => exact h.val t
  | const v => exact VR.closed v hx
  | global g => cases hx
  | func f => exact .fn f .nil .nil

theorem putArgs_get : ∀ (l : List Value) (i : Nat) (env : Env) (t : Nat), i + l.length ≤ 65536 → (putArgs i l env).get t = if i ≤ t ∧ t < i + l.length then l[t - i]? else env.get t
  | [], i, env, t, h => by
    simp only [putArgs, List.length_nil, Nat.add_zero]
    rw [if_neg (by omega)]
  | v :: l, i, env, t, h => by
    simp only [List.length_cons] at h
    have hi : i < 2 ^ 40 := by omega
    simp only [putArgs]
    rw [putArgs_get l (i + 1) _ t (by omega), Tr.get_set 40 env i t (some v) hi]
    simp only [List.length_cons]
    by_cases c1 : i + 1 ≤ t ∧ t < i + 1 + l.length
    · rw [if_pos c1, if_pos (by omega)]
      have : t - i = (t - (i + 1)) + 1 := by omega
      rw [this, List.getElem?_cons_succ]
    · rw [if_neg c1]
      by_cases c2 : t = i
      · subst c2
        rw [if_pos rfl, if_pos (by omega)]; simp
      · rw [if_neg c2, if_neg (by omega)]

theorem enter_env {args : List Value} {args' : Array Value} (h : VRs ι args args'.toList) {nt : Nat} (hl : args.length ≤ nt) (hn : nt ≤ 65536) :
    EnvR ι (putArgs 0 args .e) nt (args' ++ Array.replicate (nt - args'.size) undef) := by
  have hlen : args.length = args'.size := by simpa using h.length
  refine ⟨hn, by simp; omega, fun t => ?_⟩
  simp only [Env.val]
  rw [putArgs_get args 0 .e t (by omega)]
  simp only [Nat.zero_le, true_and, Nat.zero_add, Nat.sub_zero, Tr.get_e]
  by_cases c : t < args.length
  · rw [if_pos c]
    obtain ⟨v', h1, h2⟩ := h.get (List.getElem?_eq_getElem c)
    rw [List.getElem?_eq_getElem c]
    have : (args' ++ Array.replicate (nt - args'.size) undef)[t]? = some v' := by
      rw [Array.getElem?_append_left (by omega)]; simpa using h1
    simp only [Option.getD_some, Array.getD_eq_getD_getElem?, this]
    exact h2
  · rw [if_neg c]
    have : (args' ++ Array.replicate (nt - args'.size) undef).getD t undef = undef := by
      rw [Array.getD_eq_getD_getElem?, Array.getElem?_append_right (by omega)]
      rw [Array.getElem?_replicate]
      split <;> rfl
    rw [this]; exact .undef

theorem yieldEnv_ok {nt : Nat} : ∀ (ps : List Tmp) (vs vs' : List Value) (env : Env) (tmps : Array Value), VRs ι vs vs' → EnvR ι env nt tmps →
    EnvR ι (yieldEnv nt ps vs env) nt ((ps.zip vs').foldl (fun tmps (t, a) => tmps.setIfInBounds t a) tmps)
  | [], _, _, env, tmps, _, h => by simpa [yieldEnv] using h
  | p :: ps, _, _, env, tmps, .nil, h => by simpa [yieldEnv] using h
  | p :: ps, _, _, env, tmps, .cons hv ht, h => by
    simp only [yieldEnv, List.zip_cons_cons, List.foldl_cons]
    exact yieldEnv_ok ps _ _ _ _ ht (h.put hv (some p))

theorem yielded_ok {ops : Array Oper} {env : Env} {nt : Nat} {tmps : Array Value} (h : EnvR ι env nt tmps) (j : Nat) : yielded ops tmps j = yieldedA ops.toList env j := by
  simp only [yielded, yieldedA, Array.getElem?_toList]
  cases h1 : (ops[j]?).bind (·.dst) with
  | none => rfl
  | some d =>
    simp only [Option.bind_some]
    have hv := h.val d
    rw [Array.getD_eq_getD_getElem?] at hv
    cases h2 : tmps[d]? with
    | none =>
      rw [h2] at hv
      simp only [Option.getD_none, undef] at hv
      generalize env.val d = x at *
      cases hv; rfl
    | some y =>
      rw [h2] at hv
      simp only [Option.getD_some] at hv
      generalize env.val d = x at *
      cases hv <;> rfl

theorem wanted_ok {ops : Array Oper} {env : Env} {nt : Nat} {tmps : Array Value} (h : EnvR ι env nt tmps) (o : Oper) : Region.wanted o (yielded ops tmps) = wantedA ops.toList env o := by
  simp only [Region.wanted, wantedA]
  cases o.guard with
  | none => rfl
  | some g => simp only [yielded_ok h]
end

/-- Results. -/
theorem res_ok {X : Cx} {w0 : World} {ι : Iota} {H : Hp} {w : World} (I : Inv w0 ι H w) (R : RoOk X w0) {f : Func} {env : Env} {nt : Nat} {tmps : Array Value} (h : EnvR ι env nt tmps) {v : Value} (hr : resA X f H env = some v) :
    ∃ v', (results f tmps).run X.P w = .ok v' w ∧ VR ι v v' := by
  simp only [resA, Option.map_eq_some_iff] at hr
  obtain ⟨vs, hvs, hv⟩ := hr
  have key : ∀ (l : List ResultVar) (vs : List Value), mapOpt (resVal X H env) l = some vs → ∃ vs', (l.mapM (fun
      | .tmp t => pure (tmps.getD t undef)
      | .cell a t => do loadVar t (← asAddr (tmps.getD a undef)) : ResultVar → Sem Value)).run X.P w = .ok vs' w ∧ VRs ι vs vs' := by
    intro l
    induction l with
    | nil => intro vs h; simp [mapOpt] at h; subst h; exact ⟨[], by simp, .nil⟩
    | cons r l ih =>
      intro vs h
      simp only [mapOpt, Option.bind_eq_some_iff, Option.map_eq_some_iff] at h
      obtain ⟨x, hx, y, hy, rfl⟩ := h
      obtain ⟨vs', hrun, hvr⟩ := ih y hy
      have one : ∃ x', ((fun
      | .tmp t => pure (tmps.getD t undef)
      | .cell a t => do loadVar t (← asAddr (tmps.getD a undef)) : ResultVar → Sem Value) r).run X.P w = .ok x' w ∧ VR ι x x' := by
        cases r with
        | tmp t =>
          simp only [resVal, Option.some.injEq] at hx
          subst hx
          exact ⟨_, rfl, ‹EnvR ι env nt tmps›.val t⟩
        | cell a t =>
          simp only [resVal] at hx
          obtain ⟨x', h1, h2⟩ := loadA_ok I R (‹EnvR ι env nt tmps›.val a) hx
          refine ⟨x', ?_, h2⟩
          revert h1
          have hp := ‹EnvR ι env nt tmps›.val a
          simp only
          generalize tmps.getD a undef = q at hp
          unfold loadA at hx
          split at hx
          · rename_i e; rw [e] at hp
            obtain ⟨b, o, rfl, _⟩ := ptr_inv I hp
            intro h1
            simpa [Instr.loadAt, Instr.sureAddr, asAddr] using h1
          · cases hx
      obtain ⟨x', hx', hxv⟩ := one
      exact ⟨x' :: vs', by rw [List.mapM_cons, Sem.run_bind, hx']; simp only [Result.andThen_ok, Sem.run_bind, hrun, Sem.run_pure], .cons hxv hvr⟩
  obtain ⟨vs', hrun, hvr⟩ := key _ _ hvs
  refine ⟨if h : vs'.toArray.size = 1 then vs'.toArray[0] else .tuple vs'.toArray, ?_, ?_⟩
  · simp only [results, Sem.run_bind]
    rw [Array.mapM_eq_mapM_toList]
    rw [Sem.run_map]
    refine Eq.trans (congrArg (fun r => Result.andThen (Result.andThen r _) _) hrun) ?_
    simp
  · cases hvr with
    | nil => simp at hv ⊢; subst hv; exact .tuple .nil
    | cons h1 t =>
      cases t with
      | nil => simp at hv ⊢; subst hv; exact h1
      | cons h2 t => simp at hv ⊢; subst hv; exact .tuple (by simpa using .cons h1 (.cons h2 t))
end Go.Am
