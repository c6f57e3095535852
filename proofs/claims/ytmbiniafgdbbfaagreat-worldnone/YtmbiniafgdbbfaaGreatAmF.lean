/- The abstract machine's operations, calls among them, in the model's machine. -/
import Derived.Test.YtmbiniafgdbbfaaGreatAmE
set_option linter.unusedSimpArgs false
set_option linter.unusedVariables false
set_option linter.unusedVariables false
namespace Go.Am

/-- The machine's next step is the rest of this operation. -/
def Ap (P : Program) (m : Machine) (F : Frame) (cs : List Frame) (s : Sem Next) (w : World) : Prop :=
  ∀ F' cs' w', (stepG.apply P true F cs none s w).bare = .go { frame := F', callers := cs', status := .running, dying := none } w' → step P m = .next (lone F' cs' w')

/-- No call of another row lies on top. -/
def NoCall (F : Frame) : Prop := ∀ d wr r s k, F.todo ≠ .call d wr r s :: k

section
variable {P : Program} {m : Machine} {F : Frame} {cs : List Frame} {s : Sem Next} {w w' : World}

theorem Ap.value (A : Ap P m F cs s w) {v : Value} (h : s.run P w = .ok (.value v) w') : step P m = .next (lone (F.finish v) cs w') := A _ _ _ (by simp [stepG.apply, h])
theorem Ap.skip (A : Ap P m F cs s w) (h : s.run P w = .ok .skip w') : step P m = .next (lone (F.finish undef) cs w') := A _ _ _ (by simp [stepG.apply, h])
theorem Ap.panic (A : Ap P m F cs s w) {v : Value} (h : s.run P w = .halt (.panic v) w') : step P m = .next (lone (F.raise [{ v, recovered := false }]) cs w') := A _ _ _ (by simp [stepG.apply, h])
theorem Ap.defer (A : Ap P m F cs s w) {d : Deferred} (h : s.run P w = .ok (.defer d) w') : step P m = .next (lone ({ F with defers := d :: F.defers }.finish undef) cs w') := A _ _ _ (by simp [stepG.apply, h])
theorem Ap.enter (A : Ap P m F cs s w) (hN : NoCall F) {g : FuncId} {args : Array Value} (h : s.run P w = .ok (.enter g args) w') : step P m = .next (lone (Frame.enter P g args .normal) (F :: cs) w') := A _ _ _ (by
  simp only [stepG.apply, Sem.runT_eq, if_true, h, GStep.bare_after, GStep.bare_go]
  split
  · rename_i e; exact absurd e (hN _ _ _ _ _)
  · rfl)
theorem Ap.round (A : Ap P m F cs s w) {l : Nat} {g : FuncId} {t : Array Value} {a b : Code} (h : s.run P w = .ok (.round l g t a b) w') : step P m = .next (lone (Frame.round l g t a b .normal) (F :: cs) w') := A _ _ _ (by simp [stepG.apply, h])
theorem Ap.recover (A : Ap P m F cs s w) (hr : F.roundOf = none) (h : s.run P w = .ok .recover w') :
    step P m = .next (match tryRecover F cs with | some (v, cs') => lone (F.finish v) cs' w' | none => lone (F.finish .nilIface) cs w') := by
  cases e : tryRecover F cs with
  | none => exact A _ _ _ (by simp [stepG.apply, h, hr, e])
  | some p => exact A _ _ _ (by simp [stepG.apply, h, hr, e])

theorem ap_op {ops : Array Oper} {i : Nat} {rest : List Nat} {k : List Item} {o : Oper} (hm : F.mode = .run) (ht : F.todo = .inRegion ops (i :: rest) :: k) (ho : ops[i]? = some o)
    (hw : Region.wanted o (yielded ops F.tmps) = true) (hd : F.roundOf = none ∨ ∀ c, o.op ≠ .defer c) : Ap P (lone F cs w) F cs (execOp F.eval o) w := fun F' cs' w' h => step_lone_go (by
  obtain ⟨fn, tmps, todo, defers, mode, kind, ro⟩ := F
  simp only at hm ht hd hw
  subst hm ht
  simp only [stepG, stepG.exec, ho, Option.map_some, hw, Option.getD_some, if_true, stepG.oper, Frame.oper?]
  split
  · rename_i l c hc
    rcases hd with hd | hd
    · cases hd
    · exact absurd hc (hd c)
  · exact h)
end

def withMode : List Frame → FrameMode → List Frame
  | c :: cs, m => { c with mode := m } :: cs
  | [], _ => []

def CalR (ι : Iota) (kind : CallKind) (u : FrameMode) (cs : List Frame) : Prop := kind = .deferred → ∃ c r, cs = c :: r ∧ ModeR ι u c.mode
def CalOut (ι : Iota) (kind : CallKind) (u u' : FrameMode) (cs cs' : List Frame) : Prop := (kind = .deferred ∧ ∃ m, cs' = withMode cs m ∧ ModeR ι u' m ∧ cs ≠ []) ∨ (kind ≠ .deferred ∧ cs' = cs ∧ u' = u)

theorem CalR.mono {ι ι' : Iota} (e : Ext ι ι') {k : CallKind} {u : FrameMode} {cs : List Frame} (h : CalR ι k u cs) : CalR ι' k u cs := fun hk => let ⟨c, r, a, b⟩ := h hk; ⟨c, r, a, b.mono e⟩
theorem CalOut.mono {ι ι' : Iota} (e : Ext ι ι') {k : CallKind} {u u' : FrameMode} {cs cs' : List Frame} (h : CalOut ι k u u' cs cs') : CalOut ι' k u u' cs cs' := by
  rcases h with ⟨a, m, b, c, d⟩ | h
  · exact .inl ⟨a, m, b, c.mono e, d⟩
  · exact .inr h
theorem CalOut.refl {ι : Iota} {k : CallKind} {u : FrameMode} {cs : List Frame} (h : CalR ι k u cs) : CalOut ι k u u cs cs := by
  by_cases hk : k = .deferred
  · obtain ⟨c, r, rfl, hm⟩ := h hk
    exact .inl ⟨hk, c.mode, rfl, hm, by simp⟩
  · exact .inr ⟨hk, rfl, rfl⟩
theorem CalOut.cal {ι : Iota} {k : CallKind} {u u' : FrameMode} {cs cs' : List Frame} (h : CalOut ι k u u' cs cs') : CalR ι k u' cs' := fun hk => by
  rcases h with ⟨_, m, rfl, hm, hne⟩ | h
  · cases cs with
    | nil => exact absurd rfl hne
    | cons c r => exact ⟨_, _, rfl, hm⟩
  · exact absurd hk h.1
theorem CalOut.trans {ι : Iota} {k : CallKind} {u u' u'' : FrameMode} {cs cs' cs'' : List Frame} (h : CalOut ι k u u' cs cs') (g : CalOut ι k u' u'' cs' cs'') : CalOut ι k u u'' cs cs'' := by
  rcases h with ⟨a, m, rfl, c, d⟩ | ⟨a, rfl, rfl⟩
  · rcases g with ⟨_, m', rfl, c', d'⟩ | g
    · exact .inl ⟨a, m', by cases cs <;> rfl, c', d⟩
    · exact absurd a g.1
  · exact g
theorem CalOut.ne {ι : Iota} {k : CallKind} {u u' : FrameMode} {cs cs' : List Frame} (h : CalOut ι k u u' cs cs') (hn : cs ≠ []) : cs' ≠ [] := by
  rcases h with ⟨a, m, rfl, c, d⟩ | ⟨a, rfl, rfl⟩
  · cases cs with
    | nil => exact absurd rfl hn
    | cons c r => simp [withMode]
  · exact hn

/-- A frame has come to its end. -/
def Ended (P : Program) (m : Machine) (ι : Iota) (fr : Fr) (cs : List Frame) (w : World) : En → Prop
  | .ret v => ∃ v', VR ι v v' ∧ (match fr.round with
      | none => ∃ f, Steps P m (lone f cs w) ∧ f.going P w (.returned v') ∧ f.kind = fr.kind ∧ f.fn = fr.fn
      | some _ => ∀ c r, cs = c :: r → Steps P m (lone (c.finish v') r w))
  | .pan ch => ∃ ch', ChR ι ch ch' ∧ ∃ f, Steps P m (lone f cs w) ∧ f.going P w (.panicked ch') ∧ f.kind = fr.kind ∧ f.fn = fr.fn

def Left (P : Program) (w0 : World) (ι : Iota) (H : Hp) (w : World) (m : Machine) (fr : Fr) (cs : List Frame) (u : FrameMode) (e : En) (u' : FrameMode) (H' : Hp) : Prop :=
  ∃ ι' w' cs', Inv w0 ι' H' w' ∧ Tran ι H w ι' H' w' ∧ CalOut ι' fr.kind u u' cs cs' ∧ Ended P m ι' fr cs' w' e

def Sound (P : Program) (w0 : World) (rec : Rec) : Prop := ∀ fr u H e u' H', rec fr u H = some (e, u', H') → ∀ ι w c cs, FrR ι fr c → Inv w0 ι H w → CalR ι fr.kind u cs → (fr.round ≠ none → cs ≠ []) → Left P w0 ι H w (lone c cs w) fr cs u e u' H'

def FnsOk (P : Program) (fns : Nat → Option Func) : Prop := ∀ g f, fns g = some f → P.funcs[g]? = some f ∧ f.name ≠ "runtime.NumGoroutine"

/-- A call's end, seen by its caller. -/
def Called (P : Program) (w0 : World) (ι : Iota) (H : Hp) (w : World) (m : Machine) (F : Frame) (cs : List Frame) (H' : Hp) : En → Prop
  | .ret v => ∃ ι' w' v', Inv w0 ι' H' w' ∧ Tran ι H w ι' H' w' ∧ VR ι' v v' ∧ Steps P m (lone (F.finish v') cs w')
  | .pan ch => ∃ ι' w' ch', Inv w0 ι' H' w' ∧ Tran ι H w ι' H' w' ∧ ChR ι' ch ch' ∧ Steps P m (lone (F.raise ch') cs w')

/-- Functions that are taken by a law of their own. -/
def PrimOk (X : Cx) (w0 : World) : Prop := ∀ g p, X.prim g = some p → ∀ args H v H', p args H = some (v, H') → ∀ ι w args', Inv w0 ι H w → VRs ι args args'.toList → ∀ m F cs, Ap X.P m F cs (callFunc g args') w → NoCall F →
  Called X.P w0 ι H w m F cs H' (.ret v)

section
variable {X : Cx} {fns : Nat → Option Func} {w0 : World} {ι : Iota} {H : Hp} {w : World} {rec : Rec}

theorem Called.of_left {fr : Fr} {m : Machine} {F : Frame} {cs : List Frame} {u u' : FrameMode} {e : En} {H' : Hp} (hk : fr.kind = .normal) (h : Left X.P w0 ι H w m fr (F :: cs) u e u' H') : Called X.P w0 ι H w m F cs H' e := by
  obtain ⟨ι', w', cs', hI, hT, hC, hE⟩ := h
  have hcs : cs' = F :: cs := by
    rcases hC with ⟨a, _⟩ | ⟨_, a, _⟩
    · rw [hk] at a; cases a
    · exact a
  subst hcs
  cases e with
  | ret v =>
    obtain ⟨v', hv, hE⟩ := hE
    refine ⟨ι', w', v', hI, hT, hv, ?_⟩
    split at hE
    · obtain ⟨f, hs, hg, hfk, hfn⟩ := hE
      obtain ⟨h1, h2, h3⟩ := hg
      exact hs.trans (.one (step_leave_returned ⟨h1, h2, by rw [hfk, hk], h3⟩))
    · exact hE _ _ rfl
  | pan ch =>
    obtain ⟨ch', hv, f, hs, hg, hfk, hfn⟩ := hE
    exact ⟨ι', w', ch', hI, hT, hv, hs.trans (.one (step_leave_panicked hg))⟩

theorem Called.of_steps {m m1 : Machine} {F : Frame} {cs : List Frame} {e : En} {H' : Hp} (hs : Steps X.P m m1) (h : Called X.P w0 ι H w m1 F cs H' e) : Called X.P w0 ι H w m F cs H' e := by
  cases e with
  | ret v => obtain ⟨ι', w', v', a, b, c, d⟩ := h; exact ⟨ι', w', v', a, b, c, hs.trans d⟩
  | pan v => obtain ⟨ι', w', v', a, b, c, d⟩ := h; exact ⟨ι', w', v', a, b, c, hs.trans d⟩

theorem enter_fr {g : FuncId} {f : Func} {c : Code} {args : List Value} {args' : Array Value} (hf : X.P.funcs[g]? = some f) (hb : f.body = some c) (hv : VRs ι args args'.toList) (hl : args.length ≤ f.ntmps) (hn : f.ntmps ≤ 65536) (kind : CallKind)
    (hk : kind = .normal ∨ kind = .deferred) : FrR ι (enter g f c args kind) (Frame.enter X.P g args' kind) where
  fn := by simp [Frame.enter, enter]
  env := by simpa [Frame.enter, enter, hf] using enter_env hv hl hn
  todo := fun _ => by simpa [Frame.enter, enter, hf, hb] using ItsR.cons (.code c) .nil
  defers := by simpa [Frame.enter, enter] using DRs.nil
  mode := by simpa [Frame.enter, enter] using ModeR.run
  kind := by simp [Frame.enter, enter]
  round := by simp [Frame.enter, enter]
  ok := by rcases hk with rfl | rfl <;> simp [enter]
  rd := by simp [enter]

theorem callFunc_enter {g : FuncId} {f : Func} {c : Code} {args' : Array Value} (hf : X.P.funcs[g]? = some f) (hn : f.name ≠ "runtime.NumGoroutine") (hb : f.body = some c) : (callFunc g args').run X.P w = .ok (.enter g args') w := by
  have : (f.name == "runtime.NumGoroutine") = false := by simpa using hn
  simp [callFunc, hf, hn, hb]

theorem callF_ok (hS : Sound X.P w0 rec) (hP : FnsOk X.P fns) (hQ : PrimOk X w0) (I : Inv w0 ι H w) {g : FuncId} {args : List Value} {args' : Array Value} (hv : VRs ι args args'.toList) {m : Machine} {F : Frame} {cs : List Frame}
    (A : Ap X.P m F cs (callFunc g args') w) (hN : NoCall F) {e : En} {H' : Hp} (h : callF X fns rec g args H = some (e, H')) : Called X.P w0 ι H w m F cs H' e := by
  unfold callF at h
  split at h
  · rename_i p hp
    simp only [Option.map_eq_some_iff, Prod.mk.injEq] at h
    obtain ⟨⟨v, H2⟩, h1, rfl, rfl⟩ := h
    exact hQ g p hp _ _ _ _ h1 ι w args' I hv m F cs A hN
  · simp only [Option.bind_eq_some_iff] at h
    obtain ⟨f, hf, c, hb, h⟩ := h
    obtain ⟨hg, h⟩ := bif_some h
    simp only [Bool.and_eq_true] at hg
    simp only [Option.map_eq_some_iff, Prod.mk.injEq] at h
    obtain ⟨⟨e1, u1, H1⟩, h1, rfl, rfl⟩ := h
    obtain ⟨hf1, hf2⟩ := hP g f hf
    have hs := A.enter hN (callFunc_enter (w := w) (args' := args') hf1 hf2 hb)
    refine Called.of_steps (.one hs) (Called.of_left (fr := enter g f c args .normal) rfl (hS _ _ _ _ _ _ h1 ι w _ _ ?_ I ?_ ?_))
    · exact enter_fr hf1 hb hv (Nat.le_of_ble_eq_true hg.1) (Nat.le_of_ble_eq_true hg.2) .normal (.inl rfl)
    · intro hk; cases hk
    · intro hk; exact absurd rfl hk
end
end Go.Am
